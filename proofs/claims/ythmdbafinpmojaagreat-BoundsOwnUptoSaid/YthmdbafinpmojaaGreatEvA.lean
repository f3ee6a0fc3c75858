import Derived.Orders
import Derived.Laws.BytesArg
import Derived.Below
import Derived.Laws.AppendOwn
import Derived.Laws.Rows
import Derived.Laws.MakeOwn
import Derived.Laws.CopyRow
import Derived.Laws.Slices
import Derived.Laws.Concat
import Derived.Deep.AppendLies
set_option linter.unusedVariables false
set_option linter.unusedSimpArgs false
namespace Go.Fx
open Go
inductive K where
 |int (k:IntKind)
 |bool
 |str
 |sl (e:TypeId) (k:K)
 |prod (a b:K)
 |unit
 |raw
 |Ce (g:FuncId)
 |hd
 deriving DecidableEq
def K.T:K→Type
 | .int _=>Int
 | .bool=>Bool
 | .str=>ByteArray
 | .sl _ k=>List k.T
 | .prod a b=>a.T×b.T
 | .unit=>Unit
 | .raw=>Value
 | .hd=>Value
 | .Ce _=>Unit
def K.d:(k:K)→k.T
 | .int _=>(0:Int)
 | .bool=>false
 | .str=>ByteArray.empty
 | .sl _ _=>[]
 | .prod a b=>(a.d,b.d)
 | .unit=>()
 | .raw=> .nilFunc
 | .hd=> .slice none 0 0
 | .Ce _=>()
def K.noP:K→Bool
 | .prod a b=>a.noP&&b.noP
 |_=>true
def K.n:K→Nat
 | .prod a b=>a.n+b.n
 | .unit=>0
 |_=>1
def K.cast (a b:K)(x:a.T):Option b.T:=if h:a=b then some (h▸x)else none
inductive aT where
 |val (fr:Bool) (k:K) (x:k.T)
 |nil
 |own (r:Nat)
inductive lM where
 |lf (l:aT)
 |agg (ls:List aT)
inductive Hd where
 |uK
 |box (b:Nat)
inductive SV where
 |undef
 |one (c:lM)
 |JF (cs:List lM)
 |ref (ls:List aT)
 |Dt (r i o:Nat)
 |box (b o:Nat)
 |sub (r o n:Nat) (g:Option (Nat×Nat))
 |kX (b o:Nat) (g:Nat)
 |hd (h:Hd)
 |PU (h:Hd) (cs:List lM)
 |sK (e:TypeId) (vs:List Value) (i:Int) (r:Nat)
structure Row where
 e:TypeId
 k:K
 fr:Bool
 rw:Bool
 xs:List k.T
def Row.mp? (_:Row):Option Unit:=none
structure pF where
 t:TypeId
 ls:List aT
structure Mem where
 rows:List (Option Row)
 boxes:List (Option pF)
structure S where
 fr:List (Nat×SV)
 m:Mem
inductive TD where
 |int (k:IntKind)|bool|str|sl (e:TypeId)|struct (fs:List (Nat×TypeId))|ptr|other
structure TI where
 d:TD
 k:K
 agg:Bool
 bytes:Nat
abbrev dH:=TypeId→Option TI
def lookup:List (Nat×SV)→Nat→SV
 |[],_=> .undef
 |(t,v)::r,t'=>bif Nat.beq t t' then v else lookup r t'
def S.get (s:S)(t:Nat):SV:=lookup s.fr t
def S.put (s:S)(d:Option Nat)(v:SV)(m:Mem):S:=match d with
 |none=>⟨s.fr,m⟩
 |some t=>⟨(t,v)::s.fr,m⟩
def cb (b:Bool):SV:= .one (.lf (.val true .bool b))
def ci (k:IntKind)(n:Int):SV:= .one (.lf (.val true (.int k) n))
def PV:Value→SV
 | .int k n=>ci k n
 | .bool b=>cb b
 | .string x=> .one (.lf (.val true .str x))
 | .slice none 0 0=> .one (.lf .nil)
 | .pointer none=> .hd .uK
 |_=> .undef
def SV.plain:SV→SV
 | .kX b o _=> .box b o
 |v=>v
def Hd.sv:Hd→SV
 | .uK=> .hd .uK
 | .box b=> .box b 0
def S.gJ (s:S):Operand→SV
 | .tmp t=>(s.get t).plain
 | .const v=>PV v
 | .func g=>bif Nat.beq g 0 then .undef else .one (.lf (.val true (.Ce g) ()))
 |_=> .undef
def S.refine (s:S)(x:Operand)(b:Bool):S:=match x with
 | .tmp t=>⟨(t,cb b)::s.fr,s.m⟩
 |_=>s
def SV.bool? :SV→Option Bool
 | .one (.lf (.val _ .bool b))=>some b
 |_=>none
def Mem.row? (m:Mem)(r:Nat):Option Row:=(m.rows[r]?).bind id
def Mem.box? (m:Mem)(b:Nat):Option pF:=(m.boxes[b]?).bind id
def bP (m:Mem)(k:K):aT→Option k.T
 | .val _ k' x=>K.cast k' k x
 | .nil=>match k with
  | .sl _ _=>some []
  | .hd=>some (Value.slice none 0 0)
  |_=>none
 | .own r=>match m.row? r with
  |none=>none
  |some row=>K.cast (.sl row.e row.k) k row.xs
def bM (m:Mem):(k:K)→List aT→Option k.T
 | .prod a b,ls=>match bM m a (ls.take a.n),bM m b (ls.drop a.n)with
  |some x,some y=>some (x,y)
  |_,_=>none
 | .unit,ls=>match ls with
  |[]=>some ()
  |_=>none
 | .int q,ls=>match ls with
  |[l]=>bP m (.int q) l
  |_=>none
 | .bool,ls=>match ls with
  |[l]=>bP m .bool l
  |_=>none
 | .str,ls=>match ls with
  |[l]=>bP m .str l
  |_=>none
 | .sl e k,ls=>match ls with
  |[l]=>bP m (.sl e k) l
  |_=>none
 | .raw,ls=>match ls with
  |[l]=>bP m .raw l
  |_=>none
 | .hd,ls=>match ls with
  |[l]=>bP m .hd l
  |_=>none
 | .Ce g,ls=>match ls with
  |[l]=>bP m (.Ce g) l
  |_=>none
def bf (fr:Bool):(k:K)→k.T→List aT
 | .prod a b,x=>bf fr a x.1++bf fr b x.2
 | .unit,_=>[]
 | .int q,x=>[.val fr (.int q) x]
 | .bool,x=>[.val fr .bool x]
 | .str,x=>[.val fr .str x]
 | .sl e k,x=>[.val fr (.sl e k) x]
 | .raw,x=>[.val fr .raw x]
 | .hd,x=>[.val fr .hd x]
 | .Ce g,x=>[.val fr (.Ce g) x]
def lM.leaves:lM→List aT
 | .lf l=>[l]
 | .agg ls=>ls
def GL (agg:Bool)(ls:List aT):Option lM:=match agg,ls with
 |true,ls=>some (.agg ls)
 |false,[l]=>some (.lf l)
 |_,_=>none
def Mem.freeze (m:Mem):aT→Mem
 | .own r=>⟨m.rows.modify r (Option.map fun row=>{row with rw:=false}),m.boxes⟩
 |_=>m
def Mem.aI (m:Mem)(ls:List aT):Mem:=ls.foldl Mem.freeze m
def K.flat:K→Bool
 | .sl _ _=>false
 | .prod a b=>a.flat&&b.flat
 |_=>true
def qB (m:Mem):aT→Bool
 | .val fr (.sl _ k) _=>fr||k.flat
 | .val _ _ _=>true
 | .nil=>true
 | .own r=>match m.row? r with
  |some row=>row.fr
  |none=>false
def fK (m:Mem):aT→Bool
 | .val fr k _=>fr||k.flat
 | .nil=>true
 | .own r=>match m.row? r with
  |some row=>row.fr
  |none=>false
def eH:List (Bool×K)→Type
 |[]=>Unit
 |p::r=>p.2.T×eH r
def bQ (m:Mem):(ps:List (Bool×K))→List lM→Option (eH ps)
 |[],[]=>some ()
 |p::r,c::cs=>match bM m p.2 c.leaves,bQ m r cs with
  |some x,some y=>some (x,y)
  |_,_=>none
 |_,_=>none
def kG:List (Bool×K)→List lM→Bool
 |[],[]=>true
 |p::r,.lf _::cs=> !p.1&&kG r cs
 |p::r,.agg _::cs=>p.1&&kG r cs
 |_,_=>false
inductive Md where
 |own|fresh|shared|first
def Md.vI:Md→Bool
 | .own=>true
 |_=>false
def Md.isShared:Md→Bool
 | .shared=>true
 | .first=>true
 |_=>false
def Md.hds:Md→List lM→List lM
 | .first,cs=>cs.take 1
 |_,cs=>cs
structure kH where
 ps:List (Bool×K)
 rs:List (Bool×K)
 md:Md
 fn:eH ps→Option (eH rs)
def aN (n:Nat):List aT→List aT×List (Option Row)
 |[]=>([],[])
 | .val _ (.sl e k) xs::r=>
  let q:=aN (n+1) r
  (.own n::q.1,some ⟨e,k,true,true,xs⟩::q.2)
 |l::r=>let q:=aN n r;(l::q.1,q.2)
def jh (own fr:Bool)(n:Nat):(rs:List (Bool×K))→eH rs→Option (List lM×List (Option Row))
 |[],_=>some ([],[])
 |p::r,y=>
  let q:=if own then aN n (bf true p.2 y.1)else(bf fr p.2 y.1,[])
  match GL p.1 q.1,jh own fr (n+q.2.length) r y.2 with
  |some c,some z=>some (c::z.1,q.2++z.2)
  |_,_=>none
def A_ (mO:Bool)(AO n:Nat):(ps:List (Bool×K))→eH ps→Option (List lM×List (Option Row))
 |[],_=>some ([],[])
 |p::r,y=>bif mO then jh true true n (p::r) y else match GL p.1 (bf (Nat.blt 0 AO) p.2 y.1),A_ false (AO-1) n r y.2 with
  |some c,some z=>some (c::z.1,z.2)
  |_,_=>none
def Dj:List lM→SV
 |[c]=> .one c
 |cs=> .JF cs
section
variable {R:Type}
def eP (op:BinOp)(k:IntKind)(a b:Int):Int:=
 let x:=BitVec.ofInt k.bits a
 let y:=BitVec.ofInt k.bits b
 match op with
 | .and=>k.wrap (x&&&y).toNat
 | .or=>k.wrap (x|||y).toNat
 | .xor=>k.wrap (x ^^^ y).toNat
 |_=>k.wrap (x&&& ~~~y).toNat
def yP (k:IntKind)(a b:Int):Int:=k.wrap (a*2^(min b.toNat k.bits))
def oV (k:IntKind)(a b:Int):Int:=a.fdiv (2^(min b.toNat k.bits))
def KA (op:BinOp)(k:IntKind)(a b:Int)(c:aT→Option R):Option R:=
 match op with
 | .add=>c (.val true (.int k) (k.wrap (a+b)))
 | .sub=>c (.val true (.int k) (k.wrap (a-b)))
 | .mul=>c (.val true (.int k) (k.wrap (a*b)))
 | .quo=>bif decide (b=0)then none else c (.val true (.int k) (k.wrap (a.tdiv b)))
 | .rem=>bif decide (b=0)then none else c (.val true (.int k) (a.tmod b))
 | .eql=>c (.val true .bool (a==b))
 | .neq=>c (.val true .bool (a != b))
 | .lss=>c (.val true .bool (decide (a<b)))
 | .leq=>c (.val true .bool (decide (a≤b)))
 | .gtr=>c (.val true .bool (decide (a>b)))
 | .geq=>c (.val true .bool (decide (a≥b)))
 | .shl=>none
 | .shr=>none
 |op=>c (.val true (.int k) (eP op k a b))
def GU (op:BinOp)(a b:ByteArray)(c:aT→Option R):Option R:=
 match op with
 | .add=>bif decide (a.size+b.size≤9223372036854775807)then c (.val true .str (a++b))else none
 | .eql=>c (.val true .bool (a.toList==b.toList))
 | .neq=>c (.val true .bool (!(a.toList==b.toList)))
 |_=>none
def Ci (op:BinOp)(k:IntKind)(a:Int)(k':IntKind)(b:Int)(c:aT→Option R):Option R:=
 match op with
 | .shl=>bif decide (b<0)then none else c (.val true (.int k) (yP k a b))
 | .shr=>bif decide (b<0)then none else c (.val true (.int k) (oV k a b))
 |op=>if k=k' then KA op k a b c else none
def Cj (op:BinOp)(a b:Bool)(c:aT→Option R):Option R:=
 match op with
 | .eql=>c (.val true .bool (a==b))
 | .neq=>c (.val true .bool (!(a==b)))
 |_=>none
def alf (k:IntKind)(a:Int):Int:=k.wrap (0-a)
def Y4 (T:dH)(xt:TypeId)(op:BinOp)(x y:aT)(c:aT→Option R):Option R:=
 match x,y with
 | .val _ (.int k) a,.val _ (.int k') b=>Ci op k a k' b c
 | .val _ .bool a,.val _ .bool b=>match T xt with
  |some ⟨.bool,_,_,_⟩=>Cj op a b c
  |_=>none
 | .val _ .str a,.val _ .str b=>GU op a b c
 |_,_=>none
def unE (op:UnOp)(x:aT)(c:aT→Option R):Option R:=
 match op,x with
 | .neg,.val _ (.int k) a=>c (.val true (.int k) (alf k a))
 | .xor,.val _ (.int k) a=>c (.val true (.int k) (eP .xor k (if k.signed then -1 else k.max) a))
 | .not,.val _ .bool b=>c (.val true .bool (not b))
 |_,_=>none
def Ba (T:dH)(m:Mem)(src dst:TypeId)(x:aT)(c:aT→Option R):Option R:=
 match T src,T dst,x with
 |some ⟨.int _,_,_,_⟩,some ⟨.int k,_,_,_⟩,.val _ (.int _) a=>c (.val true (.int k) (k.wrap a))
 |some ⟨.sl e,_,_,_⟩,some ⟨.str,_,_,_⟩,.own r=>match T e,m.row? r with
  |some ⟨.int .u8,_,_,_⟩,some row=>match K.cast (.sl row.e row.k) (.sl row.e (.int .u8)) row.xs with
   |some xs=>c (.val true .str (strOfNums xs))
   |none=>none
  |_,_=>none
 |_,_,_=>none
def rH (m:Mem):aT→Option Nat
 | .val _ (.sl _ _) xs=>some (List.length (α:=_) xs)
 | .nil=>some 0
 | .own r=>(m.row? r).map fun row=>row.xs.length
 |_=>none
def VF (s:ByteArray)(i:Int):Int:=((s.data.getD i.toNat 0).toNat:Int)
def rJ (m:Mem)(n:Nat)(x:aT)(i:Int)(c:SV→Option R):Option R:=
 match x with
 | .val fr (.sl _ k) xs=>bif Nat.beq n k.n then
   (bif decide (0≤i)&&decide (i<(List.length (α:=k.T) xs:Int))then c (.ref (bf fr k (List.getD (α:=k.T) xs i.toNat k.d)))else none)else none
 | .own r=>match m.row? r with
  |some row=>bif Nat.beq n row.k.n then
    (bif decide (0≤i)&&decide (i<(row.xs.length:Int))then c (bif row.rw then .Dt r i.toNat 0 else .ref (bf row.fr row.k (row.xs.getD i.toNat row.k.d)))else none)else none
  |none=>none
 |_=>none
def vJ (T:dH)(t:TypeId):Option Nat:=match T t with
 |some ⟨.sl _,.sl _ k,_,_⟩=>some k.n
 |_=>none
def JG (T:dH)(t:TypeId):Option (Bool×Nat):=(T t).map fun i=>(i.agg,i.k.n)
def Du (T:dH)(m:Mem)(t:TypeId)(x:SV)(c:SV→Option R):Option R:=
 match JG T t with
 |none=>none
 |some (agg,n)=>
  let ls:=match x with
   | .ref ls=>some (ls.take n)
   | .Dt r i o=>match m.row? r with
    |some row=>some (((bf row.fr row.k (row.xs.getD i row.k.d)).drop o).take n)
    |none=>none
   | .box b o=>match m.box? b with
    |some bx=>some ((bx.ls.drop o).take n)
    |none=>none
   |_=>none
  match ls with
  |none=>none
  |some ls=>bif Nat.beq ls.length n then(match GL agg ls with
   |some v=>c (.one v)
   |none=>none)else none
def mF {α:Type}(l:List α)(o:Nat)(new:List α):List α:=l.take o++new++l.drop (o+new.length)
def ny (T:dH)(m:Mem)(t:TypeId)(x:SV)(v:lM)(c:Mem→Option R):Option R:=
 match JG T t with
 |none=>none
 |some (_,n)=>bif Nat.beq v.leaves.length n then(match x with
  | .Dt r i o=>
   let m1:=m.aI v.leaves
   match m1.row? r with
   |some row=>bif row.rw&&Nat.ble (o+n) row.k.n then
     (match bM m1 row.k (mF (bf row.fr row.k (row.xs.getD i row.k.d)) o v.leaves)with
     |some y=>c ⟨m1.rows.set r (some {row with fr:=row.fr&&v.leaves.all (fK m1),xs:=row.xs.set i y}),m1.boxes⟩
     |none=>none)else none
   |none=>none
  | .box b o=>match m.box? b with
   |some bx=>bif Nat.ble (o+n) bx.ls.length then c ⟨m.rows,m.boxes.set b (some {bx with ls:=mF bx.ls o v.leaves})⟩else none
   |none=>none
  |_=>none)else none
def newRow (m:Mem)(row:Row)(c:SV→Mem→Option R):Option R:=c (.one (.lf (.own m.rows.length))) ⟨m.rows++[some row],m.boxes⟩
def ji (m:Mem)(k:K):List lM→Option (List k.T)
 |[]=>some []
 |v::r=>match bM m k v.leaves,ji m k r with
  |some x,some y=>some (x::y)
  |_,_=>none
def aB (cs:List lM):List aT:=cs.flatMap lM.leaves
def fieldAt (T:dH)(t:TypeId)(f:Nat):Option (Nat×TypeId):=match T t with
 |some ⟨.struct fs,_,_,_⟩=>fs[f]?
 |_=>none
def aaW (T:dH)(t:TypeId):Option (List (Nat×TypeId)×K):=match T t with
 |some ⟨.struct fs,k,_,_⟩=>some (fs,k)
 |_=>none
def kM:K→List aT
 | .prod a b=>kM a++kM b
 | .unit=>[]
 | .int q=>[.val true (.int q) (0:Int)]
 | .bool=>[.val true .bool false]
 | .str=>[.val true .str ByteArray.empty]
 | .sl _ _=>[.nil]
 | .raw=>[.val true .raw .nilFunc]
 | .hd=>[.nil]
 | .Ce g=>[.val true (.Ce g) ()]
def zy (e:Nat):Nat:=140737488355328/e
def iV {α:Type}:List (Option α)→Option (List α)
 |[]=>some []
 |some x::r=>(iV r).map (x:: ·)
 |none::_=>none
def SV.cmp? :SV→Option lM
 | .one c=>some c
 |_=>none
def SV.leaf? :SV→Option aT
 | .one (.lf l)=>some l
 |_=>none
def SV.int? :SV→Option Int
 | .one (.lf (.val _ (.int _) a))=>some a
 |_=>none
structure KC where
 e:TypeId
 k:K
 ps:List (Bool×K)
 rs:List (Bool×K)
 fn:List k.T→eH ps→Option (eH rs)
structure Bc where
 e:TypeId
 k:K
 ps:List (Bool×K)
 rs:List (Bool×K)
 fn:List k.T→Nat→Nat→eH ps→Option (eH rs×List k.T)
inductive Oth where
 |io (s:Bc)
 |gv (s:KC)
 |cl (e:TypeId) (n b:Nat)
structure PW where
 t:TypeId
 k:IntKind
 xs:List Int
structure Bf where
 t:TypeId
 pre:Nat
 k:K
 post:Nat
def rO:Option Bf→Type
 |none=>Unit
 |some r=>r.k.T
structure Y5 where
 t:TypeId
 k:K
def xO:Option Y5→Type
 |none=>Unit
 |some r=>Option r.k.T
structure rP where
 gy:Option Bf
 gK:Bool
 ps:List (Bool×K)
 mO:Bool
 nw:Option Y5
 rs:List (Bool×K)
 own:Bool
 fn:rO gy→eH ps→Option (xO nw×eH rs×rO gy)
 AO:Nat
structure ak where
 fn:FuncId→Option kH
 io:FuncId→Option Oth
 Y6:Nat→Bool
 aJ:Nat→Option PW
 x:FuncId→Bool→Option rP
 eqs:TypeId→Option Nat
instance:CoeFun ak (fun _=>FuncId→Option kH):=⟨ak.fn⟩
def Xz (C:ak)(t:TypeId):Operand→Option PW
 | .global g=>match C.aJ g with
  |some tb=>bif Nat.beq tb.t t then some tb else none
  |none=>none
 |_=>none
def Nw (tb:PW)(i:Option Int)(c:SV→Option R):Option R:=match i with
 |some i=>bif decide (0≤i)&&decide (i<(tb.xs.length:Int))then c (.ref [.val true (.int tb.k) (List.getD tb.xs i.toNat (0:Int))])else none
 |none=>none
def Oj (T:dH)(ls:List aT)(fs:List (Nat×TypeId)):List (Nat×lM)→Option (List aT)
 |[]=>some ls
 |(i,c)::r=>match fs[i]? with
  |some (o,ft)=>match JG T ft with
   |some (_,n)=>bif Nat.beq c.leaves.length n&&Nat.ble (o+n) ls.length then Oj T (mF ls o c.leaves) fs r else none
   |none=>none
  |none=>none
def wL (C:ak)(m:Mem)(g:FuncId)(xs:List SV)(c:SV→Mem→Option R):Option R:=
 match C g,iV (xs.map SV.cmp?)with
 |some sg,some cs=>
  let m1:=if sg.md.isShared then m.aI (aB cs)else m
  let fr:= !sg.md.isShared||(aB (sg.md.hds cs)).all (fK m1)
  bif kG sg.ps cs then(match bQ m1 sg.ps cs with
   |none=>none
   |some x=>(sg.fn x).bind fun y=>match jh sg.md.vI fr m1.rows.length sg.rs y with
    |none=>none
    |some q=>c (Dj q.1) ⟨m1.rows++q.2,m1.boxes⟩)else none
 |_,_=>none
def SV.part? :SV→Option (Nat×Nat×Nat)
 | .sub r o n _=>some (r,o,n)
 |_=>none
def vC (m:Mem)(gg:KC)(xs:List SV)(c:SV→Mem→Option R):Option R:=
 match xs with
 |[]=>none
 |x0::rest=>match x0.leaf?,iV (rest.map SV.cmp?)with
  |some (.own r),some cs=>match m.row? r with
   |none=>none
   |some row=>match K.cast (.sl row.e row.k) (.sl gg.e gg.k) row.xs with
    |none=>none
    |some zs=>
     bif (row.rw&&(aB cs).all fun l=>match l with| .own q=> !(Nat.beq q r)|_=>true)&&(kG gg.ps cs&&gg.rs.all (fun p=>p.2.flat))then
      (match bQ m gg.ps cs with
      |none=>none
      |some x=>(gg.fn zs x).bind fun y=>match jh false false 0 gg.rs y with
       |some q=>c (Dj q.1) ⟨m.rows.set r none++[some ⟨gg.e,gg.k,true,true,[]⟩],m.boxes⟩
       |none=>none)else none
  |_,_=>none
def wM (T:dH)(m:Mem)(e:TypeId)(n b:Nat)(xs:List SV)(c:SV→Mem→Option R):Option R:=
 match xs with
 |[x]=>match x.leaf?,T e with
  |some l,some ei=>match bP m (.sl e ei.k) l with
   |some ys=>bif (Nat.beq n ei.k.n&&Nat.beq b ei.bytes)&&decide (List.length (α:=ei.k.T) ys<zy b)then newRow m ⟨e,ei.k,qB m l,true,ys⟩ c else none
   |none=>none
  |_,_=>none
 |_=>none
def tC (m:Mem)(ig:Bc)(xs:List SV)(c:SV→Mem→Option R):Option R:=
 match xs with
 |[]=>none
 |x0::rest=>match x0.part?,iV (rest.map SV.cmp?)with
  |some (r,o,n),some cs=>
   let m1:=m.aI (aB cs)
   match m1.row? r with
   |none=>none
   |some row=>match K.cast (.sl row.e row.k) (.sl ig.e ig.k) row.xs with
    |none=>none
    |some zs=>
     bif (row.rw&&(ig.k.flat&&Nat.blt 0 n))&&(kG ig.ps cs&&ig.rs.all (fun p=>p.2.flat))then
      (match bQ m1 ig.ps cs with
      |none=>none
      |some x=>(ig.fn zs o n x).bind fun y=>match jh false false 0 ig.rs y.1,K.cast (.sl ig.e ig.k) (.sl row.e row.k) y.2 with
       |some q,some ws=>bif Nat.beq (List.length (α:=row.k.T) ws) row.xs.length then c (Dj q.1) ⟨m1.rows.set r (some {row with xs:=ws}),m1.boxes⟩else none
       |_,_=>none)else none
  |_,_=>none
def KD (T:dH)(m:Mem):Oth→List SV→(SV→Mem→Option R)→Option R
 | .io ig,xs,c=>tC m ig xs c
 | .gv gg,xs,c=>vC m gg xs c
 | .cl e n b,xs,c=>wM T m e n b xs c
def uM (T:dH):Option TypeId→Bool
 |some t=>match T t with
  |some ⟨.sl _,_,_,_⟩=>true
  |_=>false
 |none=>false
def jv (T:dH)(m:Mem)(b:Builtin)(ts:List TypeId)(xs:List SV)(c:SV→Mem→Option R):Option R:=
 match b,xs with
 | .len,[.one (.lf (.val _ .str x))]=>match(ts[0]?).bind T with
  |some ⟨.str,_,_,_⟩=>c (ci .i64 (ByteArray.size x:Int)) m
  |_=>none
 | .len,[.one (.lf l)]=>match(ts[0]?).bind T,rH m l with
  |some ⟨.sl _,_,_,_⟩,some n=>c (ci .i64 (n:Int)) m
  |_,_=>none
 | .len,[.sK _ vs _ _]=>match(ts[0]?).bind T with
  |some ⟨.sl _,_,_,_⟩=>c (ci .i64 (List.length vs:Int)) m
  |_=>none
 | .append,[.one (.lf l),.one (.lf y)]=>
  let m1:=m.freeze y
  bif uM T (ts[1]?)then(match (ts[0]?).bind T with
  |some ⟨.sl e,.sl _ k,_,_⟩=>match T e,bP m1 (.sl e k) y with
   |some ei,some ys=>match l with
    | .nil=>bif decide (List.length (α:=k.T) ys<zy ei.bytes)then newRow m1 ⟨e,k,qB m1 y,true,ys⟩ c else none
    | .own r=>match m1.row? r with
     |some row=>match K.cast (.sl row.e row.k) (.sl e k) row.xs with
      |some xs=>bif row.rw&&decide (List.length (α:=k.T) xs+List.length (α:=k.T) ys<zy ei.bytes)then
        newRow ⟨m1.rows.set r none,m1.boxes⟩ ⟨e,k,row.fr&&qB m1 y,true,List.append (α:=k.T) xs ys⟩ c else none
      |none=>none
     |none=>none
    |_=>none
   |_,_=>none
  |_=>none)else none
 | .copy,[.one (.lf (.own r)),.one (.lf y)]=>
  let m1:=m.freeze y
  match(ts[0]?).bind T,m1.row? r with
  |some ⟨.sl _,.sl _ k,_,_⟩,some row=>match bP m1 (.sl row.e row.k) y with
   |some ys=>bif row.rw&&Nat.beq k.n row.k.n then
     c (ci .i64 (Nat.min (List.length (α:=row.k.T) ys) row.xs.length:Nat)) ⟨m1.rows.set r (some {row with fr:=row.fr&&qB m1 y,xs:=(ys:List row.k.T).take row.xs.length++row.xs.drop (List.length (α:=row.k.T) ys)}),m1.boxes⟩else none
   |none=>none
  |_,_=>none
 | .copy,[.sub r o n _,.one (.lf y)]=>
  let m1:=m.freeze y
  match(ts[0]?).bind T,m1.row? r with
  |some ⟨.sl _,.sl _ k,_,_⟩,some row=>match bP m1 (.sl row.e row.k) y with
   |some ys=>bif (row.rw&&Nat.blt 0 n)&&(Nat.beq k.n row.k.n&&Nat.ble (o+n) row.xs.length)then
     c (ci .i64 (Nat.min (List.length (α:=row.k.T) ys) n:Nat)) ⟨m1.rows.set r (some {row with fr:=row.fr&&qB m1 y,xs:=row.xs.take o++((ys:List row.k.T).take n++row.xs.drop (o+Nat.min (List.length (α:=row.k.T) ys) n))}),m1.boxes⟩else none
   |none=>none
  |_,_=>none
 |_,_=>none
def EF {α:Type}(n:Nat)(take drop:Nat→α→α)(x:α)(lo hi:Option Int)(c:α→Option R):Option R:=
 match lo,hi with
 |none,none=>c x
 |none,some h=>bif decide (0≤h)&&decide (h≤(n:Int))then c (take h.toNat x)else none
 |some l,none=>bif decide (0≤l)&&decide (l≤(n:Int))then c (drop l.toNat x)else none
 |some l,some h=>bif decide (0≤l)&&(decide (l≤h)&&decide (h≤(n:Int)))then c (drop l.toNat (take h.toNat x))else none
def qw (m:Mem)(n:Nat)(x:aT)(lo hi:Option Int)(c:SV→Mem→Option R):Option R:=
 match x with
 | .val fr (.sl e k) xs=>bif Nat.beq n k.n then EF (List.length (α:=k.T) xs) (List.take (α:=k.T)) (List.drop (α:=k.T)) xs lo hi fun y=>c (.one (.lf (.val fr (.sl e k) y))) m else none
 | .own r=>match m.row? r with
  |none=>none
  |some row=>bif Nat.beq n row.k.n then(match lo,row.rw with
   |none,true=>EF row.xs.length List.take List.drop row.xs none hi fun y=>newRow ⟨m.rows.set r none,m.boxes⟩ {row with xs:=y} c
   |lo,_=>EF row.xs.length List.take List.drop row.xs lo hi fun y=>c (.one (.lf (.val row.fr (.sl row.e row.k) y))) (m.freeze (.own r)))else none
 |_=>none
def mV (m:Mem)(n:Nat)(x:aT)(h q:Int)(c:SV→Mem→Option R):Option R:=
 match x with
 | .val fr (.sl e k) xs=>bif Nat.beq n k.n then
   (bif decide (0≤h)&&(decide (h≤q)&&decide (q≤(List.length (α:=k.T) xs:Int)))then c (.one (.lf (.val fr (.sl e k) (List.take (α:=k.T) h.toNat xs)))) m else none)else none
 |_=>none
def qC (m:Mem)(s:ByteArray)(lo hi:Option Int)(c:SV→Mem→Option R):Option R:=
 let l:=lo.getD 0
 let h:=hi.getD (ByteArray.size s:Int)
 bif decide (0≤l)&&(decide (l≤h)&&decide (h≤(ByteArray.size s:Int)))then c (.one (.lf (.val true .str (ByteArray.extract s l.toNat h.toNat)))) m else none
def Ny (m:Mem)(n:Nat)(x:SV)(lo hi:Option Int)(c:SV→Mem→Option R):Option R:=
 match x.leaf? with
 |some (.own r)=>match m.row? r with
  |some row=>
   let l:=lo.getD 0
   let h:=hi.getD (row.xs.length:Int)
   bif (Nat.beq n row.k.n&&row.rw)&&(decide (0≤l)&&(decide (l≤h)&&decide (h≤(row.xs.length:Int))))then c (.sub r l.toNat (h-l).toNat none) m else none
  |none=>none
 |_=>none
def KE (C:ak):Option Nat→Bool
 |some d=>C.Y6 d
 |none=>false
def GV (n:Nat)(x:SV)(i:Int)(c:SV→Option R):Option R:=match x with
 | .sK _ _ j r=>bif Nat.beq n 1&&decide (i=j)then c (.ref [.own r])else none
 |_=>none
def XA:SV→Bool
 | .sK _ _ _ _=>true
 |_=>false
def zB (m:Mem)(n:Nat)(x:SV)(i:Int)(c:SV→Option R):Option R:=
 match x.part? with
 |some (r,o,len)=>match m.row? r with
  |some row=>bif Nat.beq n row.k.n&&row.rw then(bif decide (0≤i)&&decide (i<(len:Int))then c (.Dt r (o+i.toNat) 0)else none)else none
  |none=>none
 |none=>none
def uN (m:Mem):aT→Bool
 | .val _ k _=>k.flat
 | .nil=>true
 | .own r=>match m.row? r with
  |some row=>row.rw&&row.fr
  |none=>false
def kU:List Nat→Bool
 |[]=>true
 |x::r=> !(r.any (Nat.beq x))&&kU r
def nC (ls:List aT):List Nat:=ls.filterMap fun
 | .own r=>some r
 |_=>none
def jw (m:Mem)(rs:List Nat):Mem:=⟨rs.foldl (fun l r=>l.set r none) m.rows,m.boxes⟩
def aaY:Option Bf→Bool→List SV→List SV
 |none,false,vs=>vs
 |_,_,vs=>vs.drop 1
def VG (m:Mem):(gy:Option Bf)→Bool→List SV→Option (Option Nat×List aT×rO gy)
 |none,false,_=>some (none,[],())
 |none,true,.hd .uK::_=>some (none,[],())
 |some r,_,.box b o::_=>match m.box? b with
  |some bx=>bif (Nat.beq o r.pre&&Nat.beq bx.t r.t)&&Nat.beq bx.ls.length (r.pre+r.k.n+r.post)then(match bM m r.k ((bx.ls.drop r.pre).take r.k.n)with
   |some x=>some (some b,(bx.ls.drop r.pre).take r.k.n,x)
   |none=>none)else none
  |none=>none
 |_,_,_=>none
def nJ:(gy:Option Bf)→rO gy→List aT
 |none,_=>[]
 |some r,d=>bf true r.k d
def vP:(nw:Option Y5)→xO nw→List aT
 |none,_=>[]
 |some _,none=>[]
 |some r,some x=>bf true r.k x
def xR (m:Mem):Option Bf→Option Nat→List aT→Option (List (Option pF))
 |some r,some b,q=>match m.box? b with
  |some bx=>some (m.boxes.set b (some ⟨r.t,mF bx.ls r.pre q⟩))
  |none=>none
 |none,none,_=>some m.boxes
 |_,_,_=>none
def pK (n:Nat)(q:List aT):(nw:Option Y5)→xO nw→Option Hd×List pF
 |none,_=>(none,[])
 |some _,none=>(some .uK,[])
 |some r,some _=>(some (.box n),[⟨r.t,q⟩])
def PX:Option Hd→List lM→SV
 |none,cs=>Dj cs
 |some h,[]=>h.sv
 |some h,c::cs=> .PU h (c::cs)
def ahs {β:Type}:(nw:Option Y5)→(xO nw→β)→xO nw→β
 |none,f,y=>f y
 |some _,f,none=>f none
 |some _,f,some x=>f (some x)
theorem EG {β:Type}(nw:Option Y5)(f:xO nw→β)(y:xO nw):ahs nw f y=f y:=by
 cases nw with
 |none=>rfl
 |some r=>cases y<;>rfl
def Bg (m:Mem)(xg:rP)(vs:List SV)(c:SV→Mem→Option R):Option R:=
 match iV ((aaY xg.gy xg.gK vs).map SV.cmp?)with
 |none=>none
 |some cs=>
  let m1:=bif xg.mO then m else m.aI (aB cs)
  match VG m1 xg.gy xg.gK vs with
  |none=>none
  |some p=>
   let gv:=p.2.1++bif xg.mO then aB cs else[]
   let ids:=nC gv
   bif kG xg.ps cs&&((xg.mO||(aB (cs.take xg.AO)).all (fK m1))&&(gv.all (uN m1)&&kU ids))then
    (match bQ m1 xg.ps cs with
    |none=>none
    |some x=>(xg.fn p.2.2 x).bind fun y=>ahs xg.nw (fun y1=>
     let n:=m1.rows.length
     let q1:=aN n (nJ xg.gy y.2.2)
     let q2:=aN (n+q1.2.length) (vP xg.nw y1)
     let h:=pK m1.boxes.length q2.1 xg.nw y1
     match xR m1 xg.gy p.1 q1.1,jh xg.own true (n+q1.2.length+q2.2.length) xg.rs y.2.1 with
      |some bs,some q3=>c (PX h.1 q3.1) ⟨(jw m1 ids).rows++(q1.2++q2.2++q3.2),bs++h.2.map some⟩
      |_,_=>none) y.1)else none
def aaZ:SV→Option FuncId
 | .one (.lf (.val _ (.Ce g) _))=>bif Nat.beq g 0 then none else some g
 |_=>none
def DT:List SV→Bool
 | .hd .uK::_=>true
 |_=>false
def VH (a b:Int):Bool:=a==b
def rQ:List aT→List aT→Option Bool
 |[],[]=>some true
 | .val _ (.int .i64) a::r,.val _ (.int .i64) b::q=>(rQ r q).map fun e=>VH a b&&e
 |_,_=>none
def SG (m:Mem):SV→Bool
 | .box _ _=>true
 | .Dt r _ _=>(m.row? r).isSome
 | .ref _=>true
 |_=>false
def KF (T:dH)(t:TypeId):Bool:=match T t with
 |some ⟨.ptr,_,_,_⟩=>true
 |_=>false
def KG (op:BinOp)(e:Bool):Option SV:=match op with
 | .eql=>some (cb e)
 | .neq=>some (cb (!e))
 |_=>none
def ae8 (C:ak)(T:dH)(xt:TypeId)(op:BinOp):SV→SV→Option SV
 | .hd .uK,.hd .uK=>bif KF T xt then KG op true else none
 | .box _ _,.hd .uK=>bif KF T xt then KG op false else none
 | .hd .uK,.box _ _=>bif KF T xt then KG op false else none
 | .one (.agg ls),.one (.agg ls')=>match C.eqs xt,rQ ls ls' with
  |some n,some e=>bif Nat.beq ls.length n&&Nat.beq ls'.length n then KG op e else none
  |_,_=>none
 |_,_=>none
def o_ (s:S):Option Operand→Option (Option Int)
 |none=>some none
 |some x=>(s.gJ x).int?.map some
def Ol (ls:List aT):Bool:=ls.all fun
 | .own _=>false
 |_=>true
def evalOp (C:ak)(T:dH)(s:S)(o:Oper)(c:SV→Mem→Option R):Option R:=
 match o.op with
 | .move x=>c (s.gJ x) s.m
 | .assign x=>c (s.gJ x) s.m
 | .pick q a b=>match(s.gJ q).bool? with
  |some b'=>bif b' then c (s.gJ a) s.m else c (s.gJ b) s.m
  |none=>none
 | .binOp op xt x y _=>match(s.gJ x).leaf?,(s.gJ y).leaf? with
  |some x,some y=>Y4 T xt op x y fun l=>c (.one (.lf l)) s.m
  |none,none=>match ae8 C T xt op (s.gJ x) (s.gJ y)with
   |some v=>c v s.m
   |none=>none
  |_,_=>none
 | .nilCheck x=>bif SG s.m (s.gJ x)then c (s.gJ x) s.m else none
 | .unOp op _ x=>match(s.gJ x).leaf? with
  |some x=>unE op x fun l=>c (.one (.lf l)) s.m
  |_=>none
 | .convert src dst x=>match(s.gJ x).leaf? with
  |some x=>Ba T s.m src dst x fun l=>c (.one (.lf l)) s.m
  |_=>none
 | .extract x i=>match s.gJ x with
  | .JF cs=>match cs[i]? with
   |some v=>c (.one v) s.m
   |none=>none
  | .PU h cs=>match i with
   |0=>c h.sv s.m
   |i+1=>match cs[i]? with
    |some v=>c (.one v) s.m
    |none=>none
  |_=>none
 | .indexAddr t x i=>match Xz C t x with
  |some tb=>Nw tb (s.gJ i).int? fun v=>c v s.m
  |none=>match vJ T t,(s.gJ x).leaf?,(s.gJ i).int? with
   |some n,some x,some i=>rJ s.m n x i fun v=>c v s.m
   |some n,none,some i=>bif XA (s.gJ x)then GV n (s.gJ x) i fun v=>c v s.m else zB s.m n (s.gJ x) i fun v=>c v s.m
   |_,_,_=>none
 | .index t x i=>match T t,(s.gJ x).leaf?,(s.gJ i).int? with
  |some ⟨.str,_,_,_⟩,some (.val _ .str x),some i=>bif decide (0≤i)&&decide (i<(ByteArray.size x:Int))then c (ci .u8 (VF x i)) s.m else none
  |_,_,_=>none
 | .load t x=>Du T s.m t (s.gJ x) fun v=>c v s.m
 | .store t x v=>match(s.gJ v).cmp? with
  |some v=>ny T s.m t (s.gJ x) v fun m=>c .undef m
  |none=>none
 | .makeSlice t n q=>match T t,(s.gJ n).int?,(s.gJ q).int? with
  |some ⟨.sl e,.sl _ k,_,_⟩,some n,some q=>match T e with
   |some ei=>bif decide (0≤n)&&(decide (n≤q)&&(decide (q.toNat*ei.bytes≤281474976710656)&&(Nat.blt 0 ei.bytes&&ei.k.noP)))then newRow s.m ⟨e,k,true,true,List.replicate n.toNat k.d⟩ c else none
   |none=>none
  |_,_,_=>none
 | .buildSlice t n ps=>match T t with
  |some ⟨.sl e,.sl _ k,_,_⟩=>match iV (ps.toList.map fun p=>(s.gJ p.2).cmp?)with
   |some cs=>bif KE C o.dst then(bif (Nat.ble (n*k.n) 16777216&&(ps.toList.map (·.1)==List.range n))&&Ol (aB cs)then(match ji s.m k cs with
    |some xs=>c (.one (.lf (.val ((aB cs).all (fK s.m)) (.sl e k) xs))) s.m
    |none=>none)else none)else
    let m1:=s.m.aI (aB cs)
    bif Nat.ble (n*k.n) 16777216&&(ps.toList.map (·.1)==List.range n)then(match ji m1 k cs with
    |some xs=>newRow m1 ⟨e,k,(aB cs).all (fK m1),true,xs⟩ c
    |none=>none)else none
   |none=>none
  |_=>none
 | .slice t x lo hi mx=>bif KE C o.dst then(match vJ T t,o_ s lo,o_ s hi,o_ s mx with
  |some n,some lo,some hi,some none=>Ny s.m n (s.gJ x) lo hi c
  |_,_,_,_=>none)else match(s.gJ x).leaf?,o_ s lo,o_ s hi,o_ s mx with
  |some (.val _ .str x),some lo,some hi,some none=>match T t with
   |some ⟨.str,_,_,_⟩=>qC s.m x lo hi c
   |_=>none
  |some x,some lo,some hi,some none=>match vJ T t with
   |some n=>qw s.m n x lo hi c
   |none=>none
  |some x,some none,some (some h),some (some q)=>match vJ T t with
   |some n=>mV s.m n x h q c
   |none=>none
  |_,_,_,_=>none
 | .alloc t=>match T t with
  |some i=>c (.box s.m.boxes.length 0) ⟨s.m.rows,s.m.boxes++[some ⟨t,kM i.k⟩]⟩
  |none=>none
 | .box t x=>match T t,(s.gJ x).cmp? with
  |some i,some v=>bif Nat.beq v.leaves.length i.k.n then c (.box s.m.boxes.length 0) ⟨s.m.rows,s.m.boxes++[some ⟨t,v.leaves⟩]⟩else none
  |_,_=>none
 | .build t ps=>match aaW T t with
  |some (fs,k)=>match iV (ps.toList.map fun p=>(s.gJ p.2).cmp?.map fun v=>(p.1,v))with
   |some cs=>match Oj T (kM k) fs cs with
    |some ls=>c (.one (.agg ls)) s.m
    |none=>none
   |none=>none
  |_=>none
 | .fieldAddr t x f=>match fieldAt T t f,(s.gJ x)with
  |some (o,ft),.ref ls=>match JG T ft with
   |some (_,n)=>c (.ref ((ls.drop o).take n)) s.m
   |none=>none
  |some (o,_),.Dt r i o'=>match s.m.row? r with
   |some _=>c (.Dt r i (o'+o)) s.m
   |none=>none
  |some (o,_),.box b o'=>c (.box b (o'+o)) s.m
  |_,_=>none
 | .field t x f=>match fieldAt T t f,s.gJ x with
  |some (o,ft),.one (.agg ls)=>match JG T ft with
   |some (agg,n)=>bif Nat.beq ((ls.drop o).take n).length n then(match GL agg ((ls.drop o).take n)with
    |some v=>c (.one v) s.m
    |none=>none)else none
   |none=>none
  |_,_=>none
 | .call q=>match q.callee with
  | .value (.func g)=>match C.x g (DT (q.args.toList.map s.gJ))with
   |some xg=>Bg s.m xg (q.args.toList.map s.gJ) c
   |none=>match C.io g with
    |none=>wL C s.m g (q.args.toList.map s.gJ) c
    |some ig=>KD T s.m ig (q.args.toList.map s.gJ) c
  | .value (.tmp t)=>match aaZ (s.gJ (.tmp t))with
   |some g=>wL C s.m g (q.args.toList.map s.gJ) c
   |none=>none
  | .builtin b=>bif Nat.beq q.argTypes.size q.args.size then jv T s.m b q.argTypes.toList (q.args.toList.map s.gJ) c else none
  |_=>none
 |_=>none
def isVoid:SV→Bool
 | .JF []=>true
 |_=>false
def EH (C:ak)(T:dH)(all:List Oper)(o:Oper)(s:S)(c:S→Bool→SV→Mem→Option R):Option R:=
 match o.guard with
 |none=>evalOp C T s o fun v m=>c s true v m
 |some (j,want)=>match(all[j]?).bind (·.dst)with
  |none=>none
  |some d=>bif isVoid (s.get d)then c s false (.JF []) s.m else match(s.get d).bool? with
   |none=>none
   |some b=>bif b then
     (let s':=s.refine (.tmp d) true
     bif want then evalOp C T s' o fun v m=>c s' true v m else c s' false (.JF []) s'.m)
    else
     (let s':=s.refine (.tmp d) false
     bif want then c s' false (.JF []) s'.m else evalOp C T s' o fun v m=>c s' true v m)
def Iz (N:Nat):Option Tmp→Bool
 |none=>true
 |some d=>Nat.blt d N
def nN (C:ak)(T:dH)(N:Nat)(all:List Oper):List Oper→S→(S→Option R)→Option R
 |[],s,c=>c s
 |o::r,s,c=>bif Iz N o.dst then EH C T all o s fun s' _ v m=>nN C T N all r (s'.put o.dst v m) c else none
def lV (ls:List aT):List Nat:=ls.filterMap fun
 | .own r=>some (2*r)
 |_=>none
def SV.owns:SV→List Nat
 | .one c=>lV c.leaves
 | .Dt r _ _=>[2*r]
 | .box b _=>[2*b+1]
 | .sub r _ _ _=>[2*r]
 |_=>[]
def XB (sg:kH):Bool:= !sg.md.isShared&&sg.rs.all fun p=>p.2.flat
def isW (C:ak)(s:S)(o:Oper):Bool:=
 match o.op with
 | .buildSlice .. => !(KE C o.dst)
 | .store .. | .makeSlice .. | .alloc .. | .box .. =>true
 | .slice _ x .. =>bif KE C o.dst then false else match(s.gJ x).leaf? with
  |some (.own _)=>true
  |_=>false
 | .call q=>match q.callee with
  | .value (.func g)=>(C.x g (DT (q.args.toList.map s.gJ))).isSome||((C.io g).isSome||match C g with
   |some sg=> !XB sg
   |none=>true)
  | .builtin .len=>false
  |_=>true
 |_=>false
def zC (s:S)(o:Oper):List Nat:=
 match o.op with
 | .convert _ _ x=>(s.gJ x).owns
 | .indexAddr _ x _=>(s.gJ x).owns
 | .slice _ x .. =>(s.gJ x).owns
 | .load _ x=>(s.gJ x).owns
 | .nilCheck x=>(s.gJ x).owns
 | .fieldAddr _ x _=>(s.gJ x).owns
 | .call q=>q.args.toList.flatMap fun x=>(s.gJ x).owns
 |_=>[]
def SV.deep (m:Mem):SV→List Nat
 | .box b o=>(2*b+1)::(match m.box? b with
  |some bx=>lV bx.ls
  |none=>[])
 |v=>v.owns
def uO (s:S)(o:Oper):List Nat:=
 match o.op with
 | .store _ x v=>(s.gJ x).owns++(s.gJ v).owns
 | .buildSlice _ _ ps=>ps.toList.flatMap fun p=>(s.gJ p.2).owns
 | .slice _ x .. =>(s.gJ x).owns
 | .call q=>q.args.toList.flatMap fun x=>(s.gJ x).deep s.m
 |_=>[]
structure yj where
 w:Bool
 rd:List Nat
 tc:List Nat
def VI (m m':Mem):List Nat:=
 ((List.range (m'.rows.length-m.rows.length)).map fun i=>2*(m.rows.length+i))++((List.range (m'.boxes.length-m.boxes.length)).map fun i=>2*(m.boxes.length+i)+1)
def Ji (C:ak)(s:S)(o:Oper)(wt:Bool)(m':Mem):yj:=bif wt then(bif isW C s o then⟨true,[],uO s o++VI s.m m'⟩else⟨false,zC s o,[]⟩)else⟨false,[],[]⟩
def lW (o:Oper):Bool:=match o.op with
 | .alloc _=>o.guard.isNone
 |_=>false
def DU (T:dH)(o:Oper):Option pF:=match o.op with
 | .alloc t=>match T t with
  |some i=>some ⟨t,kM i.k⟩
  |none=>none
 |_=>none
def SH (T:dH)(ops:List Oper):List (Option pF):=ops.map fun o=>bif lW o then DU T o else none
def S.pad (T:dH)(ops:List Oper)(s:S):S:=⟨s.fr,⟨s.m.rows,s.m.boxes++SH T ops⟩⟩
def j_ (C:ak)(B j:Nat)(s:S)(o:Oper)(wt:Bool)(m':Mem):yj:=bif lW o then⟨false,[],[2*(B+j)+1]⟩else Ji C s o wt m'
def nS (C:ak)(T:dH)(N B:Nat)(all:List Oper):List Oper→List yj→S→(List yj→S→Option R)→Option R
 |[],lg,s,c=>c lg s
 |o::r,lg,s,c=>bif Iz N o.dst then(bif lW o then(match DU T o with
   |some _=>nS C T N B all r (lg++[⟨false,[],[2*(B+lg.length)+1]⟩]) (s.put o.dst (.box (B+lg.length) 0) s.m) c
   |none=>none)else EH C T all o s fun s' wt v m=>nS C T N B all r (lg++[Ji C s' o wt m]) (s'.put o.dst v m) c)else none
def wO (x y:List Nat):Bool:=x.all fun a=> !(y.any (Nat.beq a))
def aa0 (x:Nat)(l:List Nat):Bool:=l.any (Nat.beq x)
def tmpsOf (l:List Operand):List Nat:=l.filterMap fun
 | .tmp t=>some t
 |_=>none
def looks (all:List Oper)(o:Oper):List Nat:=(match o.guard with
 |some (g,_)=>match(all[g]?).bind (·.dst)with
  |some d=>[d]
  |none=>[]
 |none=>[])++tmpsOf o.op.operands.toList
def XC (d:Option Nat)(l:List Nat):Bool:=match d with
 |some d=>aa0 d l
 |none=>false
def aht (d e:Option Nat):Bool:=match d,e with
 |some d,some e=>Nat.beq d e
 |_,_=>false
def mrg:Nat→List Nat→List Nat→List Nat
 |0,a,b=>a++b
 |_+1,[],b=>b
 |_+1,x::a,[]=>x::a
 |n+1,x::a,y::b=>bif Nat.blt x y then x::mrg n a (y::b)else bif Nat.blt y x then y::mrg n (x::a) b else x::mrg n a b
def KH (bs:List (List Nat))(o:Oper):List Nat:=o.after.toList.foldr (fun e l=>bif Region.binds .any e then mrg 400 (bs.getD e.on []++[e.on]) l else l) []
def SI:List Oper→List (List Nat)→List (List Nat)
 |[],bs=>bs
 |o::r,bs=>SI r (bs++[KH bs o])
def zD (all:List Oper)(x y:Oper)(a b:yj):Bool:=
 !(a.w&&b.w)&&(wO a.tc b.tc&&wO b.tc a.tc)&&(wO a.rd b.tc&&(wO b.rd a.tc&&(!(XC x.dst (looks all y))&&(!(XC y.dst (looks all x))&& !(aht x.dst y.dst)))))
def XD (all:List Oper)(bj:List Nat)(y:Oper)(b:yj):Nat→List (Oper×yj)→Bool
 |_,[]=>true
 |i,(x,a)::r=>((aa0 i bj||zD all x y a b)&&bif lW y then wO a.rd b.tc&&wO a.tc b.tc else true)&&XD all bj y b (i+1) r
def aa1 (o:Oper):Bool:=match o.op with
 | .select .. =>false
 |_=>true
def EI (j:Nat)(o:Oper):Bool:=o.after.toList.all fun e=>bif Region.binds .any e then Nat.blt e.on j else true
def EJ (all:List Oper)(done:List (Oper×yj)):List (Oper×yj)→List (List Nat)→Bool
 |(y,b)::r,bj::bs=>(aa1 y&&EI done.length y)&&(XD all bj y b 0 done&&EJ all (done++[(y,b)]) r bs)
 |[],_=>true
 |_,[]=>false
def DV (all:List Oper)(lg:List yj):Bool:=EJ all [] (all.zip lg) (SI all [])
inductive LS where
 |v (fr:Bool)
 |z (e:TypeId) (k:K) (fr:Bool)
 |o (e:TypeId) (k:K) (fr:Bool)
inductive CS where
 |lf (l:LS)
 |agg (ls:List LS)
 |box (t:TypeId) (ls:List LS)
 |sub (fr:Bool)
 |kX (t:TypeId) (ls:List LS)
 |uK
def coL (m:Mem):LS→aT→Option (aT×Mem)
 | .v fr,.val fr' k x=>bif fr'|| !fr then some (.val fr k x,m)else none
 | .v fr,.own r=>match m.row? r with
  |some row=>bif row.fr|| !fr then some (.val fr (.sl row.e row.k) row.xs,m.freeze (.own r))else none
  |none=>none
 | .v _,.nil=>some (.nil,m)
 | .z e k fr,.nil=>some (.val fr (.sl e k) [],m)
 | .z _ _ fr,.val fr' k x=>bif fr'|| !fr then some (.val fr k x,m)else none
 | .z _ _ fr,.own r=>match m.row? r with
  |some row=>bif row.fr|| !fr then some (.val fr (.sl row.e row.k) row.xs,m.freeze (.own r))else none
  |none=>none
 | .o _ _ fr,.own r=>match m.row? r with
  |some row=>bif row.rw&&(row.fr|| !fr)then some (.own r,⟨m.rows.set r (some {row with fr:=fr}),m.boxes⟩)else none
  |none=>none
 | .o e k fr,.nil=>some (.own m.rows.length,⟨m.rows++[some ⟨e,k,fr,true,[]⟩],m.boxes⟩)
 |_,_=>none
def PY (m:Mem):List LS→List aT→Option (List aT×Mem)
 |[],[]=>some ([],m)
 |x::r,l::q=>match coL m x l with
  |some p=>match PY p.2 r q with
   |some z=>some (p.1::z.1,z.2)
   |none=>none
  |none=>none
 |_,_=>none
def coV (m:Mem):CS→SV→Option (SV×Mem)
 | .lf x,.one (.lf l)=>match coL m x l with
  |some p=>some (.one (.lf p.1),p.2)
  |none=>none
 | .agg xs,.one (.agg ls)=>match PY m xs ls with
  |some p=>some (.one (.agg p.1),p.2)
  |none=>none
 | .box t xs,.box b 0=>match m.box? b with
  |some bx=>match PY m xs bx.ls with
   |some p=>bif Nat.beq t bx.t then some (.box b 0,⟨p.2.rows,p.2.boxes.set b (some ⟨t,p.1⟩)⟩)else none
   |none=>none
  |none=>none
 | .sub fr,.sub r o n g=>match m.row? r with
  |some row=>bif row.rw&&(row.fr|| !fr)then some (.sub r o n g,⟨m.rows.set r (some {row with fr:=fr}),m.boxes⟩)else none
  |none=>none
 | .kX t xs,.kX b o g=>match m.box? b with
  |some bx=>match PY m xs bx.ls with
   |some p=>bif Nat.beq t bx.t then some (.kX b o g,⟨p.2.rows,p.2.boxes.set b (some ⟨t,p.1⟩)⟩)else none
   |none=>none
  |none=>none
 | .uK,.hd .uK=>some (.hd .uK,m)
 |_,_=>none
def aa2 (s:S):List (Nat×CS)→Mem→Option (List (Nat×SV)×Mem)
 |[],m=>some ([],m)
 |(t,c)::r,m=>match coV m c (s.get t)with
  |some p=>match aa2 s r p.2 with
   |some z=>some ((t,p.1)::z.1,z.2)
   |none=>none
  |none=>none
def VJ (l:List Nat)(x:Nat):List Nat:=bif l.any (Nat.beq x)then l else l++[x]
def XE (l:List Nat)(ls:List aT):List Nat:=ls.foldl (fun l x=>match x with
 | .own r=>VJ l r
 |_=>l) l
def SV.leaves:SV→List aT
 | .one c=>c.leaves
 | .JF cs=>aB cs
 | .ref ls=>ls
 | .sub r _ _ _=>[.own r]
 |_=>[]
def SK (x:Nat):List Nat→Option Nat
 |[]=>none
 |y::r=>bif Nat.beq x y then some 0 else(SK x r).map (· +1)
def VK (rs:List Nat):aT→Option aT
 | .own r=>(SK r rs).map .own
 |l=>some l
def ap0 (rs:List Nat):lM→Option lM
 | .lf l=>(VK rs l).map .lf
 | .agg ls=>(iV (ls.map (VK rs))).map .agg
def aiD (rs bs:List Nat):SV→Option SV
 | .one c=>(ap0 rs c).map .one
 | .box b o=>(SK b bs).map (.box · o)
 | .kX b o g=>(SK b bs).map (.kX · o g)
 | .hd .uK=>some (.hd .uK)
 | .sub r o n g=>(SK r rs).map (.sub · o n g)
 |_=>none
def aa3 (fr:List (Nat×SV)):List Nat:=fr.foldl (fun l x=>match x.2 with
 | .box b _=>VJ l b
 | .kX b _ _=>VJ l b
 |_=>l) []
def gc (fr:List (Nat×SV))(m:Mem):Option S:=
 let bs:=aa3 fr
 match iV (bs.map m.box?)with
 |none=>none
 |some bx=>
  let rs:=bx.foldl (fun l b=>XE l b.ls) (fr.foldl (fun l x=>XE l x.2.leaves) [])
  bif kU rs&&kU bs then(match iV (rs.map m.row?),iV (fr.map fun x=>(aiD rs bs x.2).map fun v=>(x.1,v)),iV (bx.map fun b=>(iV (b.ls.map (VK rs))).map fun ls=>pF.mk b.t ls)with
  |some rows,some fr',some bx'=>some ⟨fr',⟨rows.map some,bx'.map some⟩⟩
  |_,_,_=>none)else none
def dS (sh:List (Nat×CS))(s:S):Option S:=match aa2 s sh s.m with
 |some p=>gc p.1 p.2
 |none=>none
def tag:Code→Nat
 | .region id _ _=>id
 | .seq a _=>tag a
 | .cond _ a _=>tag a
 | .block _ a=>tag a
 | .loop a=>tag a
 | .scope a=>tag a
 |_=>0
structure Env (R:Type) where
 C:ak
 T:dH
 N:Nat
 sh:Nat→List (Nat×CS)
 fin:S→Option R
def wP {R:Type}(E:Env R)(A:Nat→S→Option R)(j:Nat)(s:S):Option R:=match dS (E.sh j) s with
 |some s'=>A j s'
 |none=>none
def go {R:Type}(E:Env R)(A:Nat→S→Option R):Nat→List Item→S→Option R
 |0,_,_=>none
 |_+1,[],s=>E.fin s
 |n+1,.code c::r,s=>match c with
  | .skip=>go E A n r s
  | .seq a b=>go E A n (.code a:: .code b::r) s
  | .region _ ops d=>bif d then nS E.C E.T E.N s.m.boxes.length ops.toList ops.toList [] (s.pad E.T ops.toList) (fun lg s'=>bif DV ops.toList lg then go E A n r s' else none)else nN E.C E.T E.N ops.toList ops.toList s fun s'=>go E A n r s'
  | .cond x a b=>match(s.gJ x).bool? with
   |some t=>bif t then go E A n (.code a::r) (s.refine x true)else go E A n (.code b::r) (s.refine x false)
   |none=>none
  | .block id a=>go E A n (.code a:: .inBlock id::r) s
  | .loop a=>wP E A (tag a) s
  | .exit id=>match exitTo id r with
   |some r'=>go E A n r' s
   |none=>none
  | .ret=>E.fin s
  |_=>none
 |n+1,.inBlock _::r,s=>go E A n r s
 |_+1,.inLoop a::_,s=>wP E A (tag a) s
 |_+1,_::_,_=>none
def steps:Nat:=1000
def gB {R:Type}(E:Env R)(lN:Nat→List Item):Nat→Nat→S→Option R
 |0,_,_=>none
 |k+1,j,s=>go E (gB E lN k) steps (lN j) s
def GX (T:dH)(s:S):ResultVar→Option lM
 | .tmp t=>(s.get t).cmp?
 | .cell a t=>match s.get a,JG T t with
  | .box b 0,some (agg,n)=>match s.m.box? b with
   |some bx=>bif Nat.beq bx.ls.length n then GL agg bx.ls else none
   |none=>none
  |_,_=>none
def aiE {Z:Type}(s:S)(t:Nat)(c:S→Option Z):Option Z:=match s.get t with
 | .sub r o n _=>match s.m.row? r with
  |some row=>bif Nat.ble (o+n) row.xs.length then c ⟨(t,.one (.lf (.val row.fr (.sl row.e row.k) (List.take (α:=row.k.T) n (List.drop (α:=row.k.T) o row.xs)))))::s.fr,s.m.freeze (.own r)⟩else none
  |none=>none
 |_=>c s
def aiF {Z:Type}(s:S)(c:S→Option Z):ResultVar→Option Z
 | .tmp t=>aiE s t c
 |_=>c s
def aiG {Z:Type}(c:S→Option Z):List ResultVar→S→Option Z
 |[],s=>c s
 |x::r,s=>aiF s (aiG c r) x
def PZ (T:dH)(md:Md)(rs:List (Bool×K))(res:List ResultVar)(s:S):Option (eH rs):=
 match iV (res.map (GX T s))with
 |some cs=>
  let m1:=bif md.vI then s.m else s.m.aI (aB cs)
  bif kG rs cs&&(bif md.vI then(aB cs).all (uN m1)&&kU (nC (aB cs))else(aB cs).all (fK m1))then bQ m1 rs cs else none
 |none=>none
def ae_ (fr:Bool)(p:Bool×K)(x:p.2.T):lM:=if p.1 then .agg (bf fr p.2 x)else match bf fr p.2 x with
 |[l]=> .lf l
 |ls=> .agg ls
def Dv (fr:Bool):(ps:List (Bool×K))→Nat→eH ps→List (Nat×SV)
 |[],_,_=>[]
 |p::r,i,x=>(i,.one (ae_ fr p x.1))::Dv fr r (i+1) x.2
def finish (T:dH)(md:Md)(rs:List (Bool×K))(res:List ResultVar)(s:S):Option (eH rs):=aiG (PZ T md rs res) res s
structure jH where
 gy:Option Bf
 gK:Bool
 ps:List (Bool×K)
 mO:Bool
 nw:Option Y5
 rs:List (Bool×K)
 own:Bool
 sh:Nat→List (Nat×CS)
 AO:Nat
structure Gh where
 b:Nat
 v:Nat→Value
def Dk (G:Gh)(i n:Nat):List aT:=(List.range n).map fun j=> .val true .raw (G.v (i+j))
def sN (G:Gh)(q:List aT):Option Bf→Bool→List (Nat×SV)×List pF
 |none,false=>([],[])
 |none,true=>([(0,.hd .uK)],[])
 |some r,_=>([(0,.kX 0 r.pre G.b)],[⟨r.t,Dk G 0 r.pre++q++Dk G r.pre r.post⟩])
def vS (i:Nat):List lM→List (Nat×SV)
 |[]=>[]
 |c::cs=>(i,.one c)::vS (i+1) cs
def jH.Vq (q:jH)(G:Gh)(d:rO q.gy)(x:eH q.ps):Option S:=
 let q1:=aN 0 (nJ q.gy d)
 let e:=sN G q1.1 q.gy q.gK
 match A_ q.mO q.AO q1.2.length q.ps x with
 |none=>none
 |some z=>some ⟨e.1++vS e.1.length z.1,⟨q1.2++z.2,e.2.map some⟩⟩
def jH.ext (q:jH)(G:Gh)(y:xO q.nw×eH q.rs×rO q.gy):Option (SV×Mem):=
 let q1:=aN 0 (nJ q.gy y.2.2)
 let q2:=aN q1.2.length (vP q.nw y.1)
 let e:=(sN G q1.1 q.gy q.gK).2
 let h:=pK e.length q2.1 q.nw y.1
 match jh q.own true (q1.2.length+q2.2.length) q.rs y.2.1 with
 |none=>none
 |some q3=>some (PX h.1 q3.1,⟨q1.2++q2.2++q3.2,(e++h.2).map some⟩)
def P5:List aT→Option (List Value)
 |[]=>some []
 | .val _ .raw v::r=>match P5 r with
  |some q=>some ((v:Value)::q)
  |none=>none
 |_=>none
def aiH (s:S):(gy:Option Bf)→Option (List aT×Option Nat×Nat×List Value)
 |none=>some ([],none,0,[])
 |some r=>match s.get 0 with
  | .kX b o g=>match s.m.box? b with
   |some bx=>bif (Nat.beq o r.pre&&Nat.beq bx.t r.t)&&Nat.beq bx.ls.length (r.pre+r.k.n+r.post)then(match P5 (bx.ls.take r.pre++bx.ls.drop (r.pre+r.k.n))with
    |some z=>some ((bx.ls.drop r.pre).take r.k.n,some b,g,z)
    |none=>none)else none
   |none=>none
  |_=>none
def ahv (m:Mem):(gy:Option Bf)→List aT→Option (rO gy)
 |none,_=>some ()
 |some r,ls=>bM m r.k ls
def aiI (T:dH)(s:S):Option Y5→List ResultVar→Option (List aT×Option Nat×List ResultVar)
 |none,l=>some ([],none,l)
 |some r,.tmp t::l=>match(s.get t).plain with
  | .hd .uK=>some ([],none,l)
  | .box b 0=>match s.m.box? b with
   |some bx=>bif Nat.beq bx.t r.t&&Nat.beq bx.ls.length r.k.n then some (bx.ls,some b,l)else none
   |none=>none
  |_=>none
 |some r,.cell a _::l=>none
 |some _,[]=>none
def ahw (m:Mem):(nw:Option Y5)→Option Nat→List aT→Option (xO nw)
 |none,_,_=>some ()
 |some _,none,_=>some none
 |some r,some _,ls=>match bM m r.k ls with
  |some x=>some (some x)
  |none=>none
def P7 (T:dH)(q:jH)(res:List ResultVar)(s:S):Option ((xO q.nw×eH q.rs×rO q.gy)×Nat×List Value):=
 match aiH s q.gy,aiI T s q.nw res with
 |some a,some b=>match iV (b.2.2.map (GX T s))with
  |some cs=>
   let m1:=bif q.own then s.m else s.m.aI (aB cs)
   let gv:=a.1++(b.1++bif q.own then aB cs else[])
   let bs:=a.2.1.toList++b.2.1.toList
   bif kG q.rs cs&&((q.own||(aB cs).all (fK m1))&&(gv.all (uN m1)&&(kU (nC gv)&&kU bs)))then
    (match ahv m1 q.gy a.1,ahw m1 q.nw b.2.1 b.1,bQ m1 q.rs cs with
    |some d,some n,some y=>some ((n,y,d),a.2.2)
    |_,_,_=>none)else none
  |none=>none
 |_,_=>none
structure Spec where
 ps:List (Bool×K)
 rs:List (Bool×K)
 md:Md
 sh:Nat→List (Nat×CS)
def yu (j:Nat):Code→List Item→Option (List Item)
 | .seq a b,r=>match yu j a (.code b::r)with
  |some x=>some x
  |none=>yu j b r
 | .cond _ a b,r=>match yu j a r with
  |some x=>some x
  |none=>yu j b r
 | .block id a,r=>yu j a (.inBlock id::r)
 | .loop a,r=>bif Nat.beq (tag a) j then some (.code a:: .inLoop a::r)else yu j a (.inLoop a::r)
 |_,_=>none
def Func.lN (f:Func)(j:Nat):List Item:=match f.body with
 |some c=>(yu j c []).getD []
 |none=>[]
def Spec.env (q:Spec)(C:ak)(T:dH)(f:Func):Env (eH q.rs):=⟨C,T,f.ntmps,q.sh,finish T q.md q.rs f.results.toList⟩
def entry (f:Func):List Item:=match f.body with
 |some c=>[.code c]
 |none=>[]
def SL:Md→(ps:List (Bool×K))→eH ps→List (Nat×SV)
 | .first,p::r,x=>(0,.one (ae_ true p x.1))::Dv false r 1 x.2
 |md,ps,x=>Dv md.isShared ps 0 x
def IB (q:Spec)(C:ak)(T:dH)(f:Func)(k:Nat)(x:eH q.ps):Option (eH q.rs):=
 go (q.env C T f) (gB (q.env C T f) (Func.lN f) k) steps (entry f) ⟨SL q.md q.ps x,⟨[],[]⟩⟩
def jH.Res (q:jH):Type:=(xO q.nw×eH q.rs×rO q.gy)×Nat×List Value
def jH.env (q:jH)(C:ak)(T:dH)(f:Func):Env q.Res:=⟨C,T,f.ntmps,q.sh,P7 T q f.results.toList⟩
def IC (q:jH)(C:ak)(T:dH)(f:Func)(k:Nat)(G:Gh)(d:rO q.gy)(x:eH q.ps):Option q.Res:=
 (q.Vq G d x).bind fun s=>go (q.env C T f) (gB (q.env C T f) (Func.lN f) k) steps (entry f) s
end
end Go.Fx

namespace Go.Fx
open Go Go.RowKit
theorem DW {w:World}{a:Addr}{v:Value}(h:w.cell? a=some v):a.block<w.heap.size:=World.block_lt_of_cell? w a h
def alg (w:World)(ok:Nat→Prop)(n:Nat){α:Type}(R:α→List Value→Prop)(xs:List α)(cs:List Value):Prop:=
 ∃A c,cs=[.slice A xs.length c]∧xs.length≤c∧∀i x,xs[i]? =some x→
  ∃ad es,A=some ad∧ad.block<w.heap.size∧ok ad.block∧R x es∧∀j v,es[j]? =some v→w.cell? (ad.add (i*n+j))=some v
def fnV (g:Nat):Value:=bif Nat.beq g 0 then .pointer none else .func (.func g) #[] #[]
def Rd (w:World)(ok:Nat→Prop):(k:K)→k.T→List Value→Prop
 | .int q,x,cs=>cs=[.int q x]
 | .bool,x,cs=>cs=[.bool x]
 | .str,x,cs=>cs=[.string x]
 | .unit,_,cs=>cs=[]
 | .prod a b,x,cs=>∃c1 c2,cs=c1++c2∧Rd w ok a x.1 c1∧Rd w ok b x.2 c2
 | .sl _ k,xs,cs=>alg w ok k.n (Rd w ok k) xs cs
 | .raw,x,cs=>cs=[x]∧Value.oneCell' x=true
 | .hd,x,cs=>cs=[x]∧∃A n c,x=Value.slice A n c
 | .Ce g,_,cs=>cs=[fnV g]
theorem Rd.len {w:World}{ok:Nat→Prop}:∀{k:K} {x:k.T} {cs:List Value},Rd w ok k x cs→cs.length=k.n
 | .int q,x,cs,h=>by simp only[Rd]at h;subst h;rfl
 | .bool,x,cs,h=>by simp only[Rd]at h;subst h;rfl
 | .str,x,cs,h=>by simp only[Rd]at h;subst h;rfl
 | .unit,x,cs,h=>by simp only[Rd]at h;subst h;rfl
 | .sl e k,x,cs,h=>by obtain⟨A,c,rfl,_⟩:=h;rfl
 | .raw,x,cs,h=>by obtain⟨rfl,_⟩:=h;rfl
 | .hd,x,cs,h=>by obtain⟨rfl,_⟩:=h;rfl
 | .Ce g,x,cs,h=>by have h:cs=[fnV g]:=h;subst h;rfl
 | .prod a b,x,cs,h=>by
  obtain⟨c1,c2,rfl,h1,h2⟩:=h
  simp[K.n,h1.len,h2.len]
theorem Rd.one {w:World}{ok:Nat→Prop}:∀{k:K} {x:k.T} {cs:List Value},Rd w ok k x cs→∀u∈cs,u.oneCell'=true
 | .int q,x,cs,h,u,hu=>by simp only[Rd]at h;subst h;simp at hu;subst hu;rfl
 | .bool,x,cs,h,u,hu=>by simp only[Rd]at h;subst h;simp at hu;subst hu;rfl
 | .str,x,cs,h,u,hu=>by simp only[Rd]at h;subst h;simp at hu;subst hu;rfl
 | .unit,x,cs,h,u,hu=>by simp only[Rd]at h;subst h;simp at hu
 | .sl e k,x,cs,h,u,hu=>by obtain⟨A,c,rfl,_⟩:=h;simp at hu;subst hu;rfl
 | .raw,x,cs,h,u,hu=>by obtain⟨rfl,h⟩:=h;rw[List.mem_singleton.1 hu];exact h
 | .hd,x,cs,h,u,hu=>by obtain⟨rfl,_,_,_,rfl⟩:=h;rw[List.mem_singleton.1 hu];rfl
 | .Ce g,x,cs,h,u,hu=>by have h:cs=[fnV g]:=h;subst h;simp at hu;subst hu;unfold fnV;cases Nat.beq g 0<;>rfl
 | .prod a b,x,cs,h,u,hu=>by
  obtain⟨c1,c2,rfl,h1,h2⟩:=h
  rcases List.mem_append.1 hu with hu|hu
  ·exact h1.one u hu
  ·exact h2.one u hu
def iF (w:World)(ok:Nat→Prop)(w':World)(ok':Nat→Prop):Prop:=∀b,b<w.heap.size→ok b→ok' b∧b<w'.heap.size∧w'.heap[b]? =w.heap[b]?
theorem iF.refl (w:World)(ok:Nat→Prop):iF w ok w ok:=fun b h k=>⟨k,h,rfl⟩
theorem iF.mono {w:World}{ok ok':Nat→Prop}(h:∀b,b<w.heap.size→ok b→ok' b):iF w ok w ok':=fun b l k=>⟨h b l k,l,rfl⟩
theorem iF.trans {w w1 w2:World}{o o1 o2:Nat→Prop}(h:iF w o w1 o1)(k:iF w1 o1 w2 o2):iF w o w2 o2:=fun b l p=>
 let⟨a,b',c⟩:=h b l p
 let⟨d,e,f⟩:=k b b' a
 ⟨d,e,f.trans c⟩
theorem iF.cell {w w':World}{ok ok':Nat→Prop}(H:iF w ok w' ok'){a:Addr}{v:Value}(ho:ok a.block)(h:w.cell? a=some v):w'.cell? a=some v:=
 (World.cell?_of_block (H a.block (DW h) ho).2.2).trans h
theorem Addr.gU (a:Addr)(n:Nat):(a.add n).block=a.block:=by unfold Addr.add;split<;>rfl
theorem Rd.aW {w w':World}{ok ok':Nat→Prop}(H:iF w ok w' ok'):∀{k:K} {x:k.T} {cs:List Value},Rd w ok k x cs→Rd w' ok' k x cs
 | .int q,x,cs,h=>h
 | .bool,x,cs,h=>h
 | .str,x,cs,h=>h
 | .unit,x,cs,h=>h
 | .raw,x,cs,h=>h
 | .hd,x,cs,h=>h
 | .Ce g,x,cs,h=>h
 | .prod a b,x,cs,h=>by
  obtain⟨c1,c2,rfl,h1,h2⟩:=h
  exact⟨c1,c2,rfl,h1.aW H,h2.aW H⟩
 | .sl e k,xs,cs,h=>by
  obtain⟨A,c,rfl,hc,hx⟩:=h
  refine⟨A,c,rfl,hc,fun i x hi=> ?_⟩
  obtain⟨ad,es,rfl,hl,ho,hr,hcell⟩:=hx i x hi
  obtain⟨Nq,VL,_⟩:=H _ hl ho
  exact⟨ad,es,rfl,VL,Nq,hr.aW H,fun j v hv=>H.cell (by rw[Addr.gU];exact ho) (hcell j v hv)⟩
theorem Rd.mono {w:World}{ok ok':Nat→Prop}(H:∀b,ok b→ok' b){k:K}{x:k.T}{cs:List Value}(h:Rd w ok k x cs):Rd w ok' k x cs:=
 h.aW (iF.mono fun b _=>H b)
theorem Rd.flat {w w':World}{ok ok':Nat→Prop}:∀{k:K} {x:k.T} {cs:List Value},k.flat=true→Rd w ok k x cs→Rd w' ok' k x cs
 | .int q,x,cs,_,h=>h
 | .bool,x,cs,_,h=>h
 | .str,x,cs,_,h=>h
 | .unit,x,cs,_,h=>h
 | .raw,x,cs,_,h=>h
 | .hd,x,cs,_,h=>h
 | .Ce g,x,cs,_,h=>h
 | .prod a b,x,cs,f,h=>by
  obtain⟨c1,c2,rfl,h1,h2⟩:=h
  simp only[K.flat,Bool.and_eq_true]at f
  exact⟨c1,c2,rfl,h1.flat f.1,h2.flat f.2⟩
def aY (w:World)(ok:Nat→Prop)(k:K):List k.T→List Value→Prop
 |[],cs=>cs=[]
 |x::r,cs=>∃c1 c2,cs=c1++c2∧Rd w ok k x c1∧aY w ok k r c2
section
variable {w w':World} {ok ok':Nat→Prop} {k:K}
theorem aY.len:∀{xs:List k.T} {cs:List Value},aY w ok k xs cs→cs.length=xs.length*k.n
 |[],cs,h=>by simp only[aY]at h;subst h;simp
 |x::r,cs,h=>by
  obtain⟨c1,c2,rfl,h1,h2⟩:=h
  rw[List.length_append,h1.len,h2.len,List.length_cons,Nat.add_mul];omega
theorem aY.one:∀{xs:List k.T} {cs:List Value},aY w ok k xs cs→∀u∈cs,u.oneCell'=true
 |[],cs,h,u,hu=>by simp only[aY]at h;subst h;simp at hu
 |x::r,cs,h,u,hu=>by
  obtain⟨c1,c2,rfl,h1,h2⟩:=h
  rcases List.mem_append.1 hu with hu|hu
  ·exact h1.one u hu
  ·exact h2.one u hu
theorem aY.aW (H:iF w ok w' ok'):∀{xs:List k.T} {cs:List Value},aY w ok k xs cs→aY w' ok' k xs cs
 |[],cs,h=>h
 |x::r,cs,h=>by
  obtain⟨c1,c2,rfl,h1,h2⟩:=h
  exact⟨c1,c2,rfl,h1.aW H,h2.aW H⟩
theorem aY.flat (f:k.flat=true):∀{xs:List k.T} {cs:List Value},aY w ok k xs cs→aY w' ok' k xs cs
 |[],cs,h=>h
 |x::r,cs,h=>by
  obtain⟨c1,c2,rfl,h1,h2⟩:=h
  exact⟨c1,c2,rfl,h1.flat f,h2.flat f⟩
theorem aY.append:∀{xs ys:List k.T} {cs ds:List Value},aY w ok k xs cs→aY w ok k ys ds→aY w ok k (xs++ys) (cs++ds)
 |[],ys,cs,ds,h,h'=>by simp only[aY]at h;subst h;exact h'
 |x::r,ys,cs,ds,h,h'=>by
  obtain⟨c1,c2,rfl,h1,h2⟩:=h
  exact⟨c1,c2++ds,by simp,h1,h2.append h'⟩
theorem aY.split:∀{xs ys:List k.T} {cs:List Value},aY w ok k (xs++ys) cs→∃c1 c2,cs=c1++c2∧aY w ok k xs c1∧aY w ok k ys c2
 |[],ys,cs,h=>⟨[],cs,rfl,rfl,h⟩
 |x::r,ys,cs,h=>by
  obtain⟨c1,c2,rfl,h1,h2⟩:=h
  obtain⟨d1,d2,rfl,h3,h4⟩:=h2.split
  exact⟨c1++d1,d2,by simp,⟨c1,d1,rfl,h1,h3⟩,h4⟩
theorem aY.at_ {xs:List k.T}{cs:List Value}(h:aY w ok k xs cs){i:Nat}{x:k.T}(hi:xs[i]? =some x):
  ∃es,Rd w ok k x es∧(∀j v,es[j]? =some v→cs[i*k.n+j]? =some v)∧cs=cs.take (i*k.n)++es++cs.drop (i*k.n+k.n):=by
 induction xs generalizing cs i with
 |nil=>simp at hi
 |cons y r ih=>
  obtain⟨c1,c2,rfl,h1,h2⟩:=h
  have l1:=h1.len
  cases i with
  |zero=>
   simp at hi;subst hi
   refine⟨c1,h1,fun j v hv=> ?_,?_⟩
   ·have hj:j<c1.length:=(List.getElem?_eq_some_iff.1 hv).1
    rw[Nat.zero_mul,Nat.zero_add,List.getElem?_append_left hj];exact hv
   ·rw [Nat.zero_mul,Nat.zero_add,←l1];simp
  |succ i=>
   simp at hi
   obtain⟨es,he,hc,hs⟩:=ih h2 hi
   refine⟨es,he,fun j v hv=> ?_,?_⟩
   ·rw [List.getElem?_append_right (by rw[l1,Nat.add_mul];omega)]
    have:(i+1)*k.n+j-c1.length=i*k.n+j:=by rw[l1,Nat.add_mul];omega
    rw[this];exact hc j v hv
   ·have e1:(i+1)*k.n=c1.length+i*k.n:=by rw[l1,Nat.add_mul];omega
    rw[e1,List.take_length_add_append,Nat.add_assoc,List.drop_length_add_append]
    conv=>lhs;rw[hs]
    simp
theorem aY.set {xs:List k.T}{cs:List Value}(h:aY w ok k xs cs){i:Nat}{y:k.T}{es:List Value}(hi:i<xs.length)(hy:Rd w ok k y es):
  aY w ok k (xs.set i y) (cs.take (i*k.n)++es++cs.drop (i*k.n+k.n)):=by
 induction xs generalizing cs i with
 |nil=>simp at hi
 |cons x r ih=>
  obtain⟨c1,c2,rfl,h1,h2⟩:=h
  have l1:=h1.len
  cases i with
  |zero=>
   simp only[List.set_cons_zero,Nat.zero_mul,Nat.zero_add,List.take_zero,List.nil_append]
   refine⟨es,c2,?_,hy,h2⟩
   rw[←l1,List.drop_left]
  |succ i=>
   simp only[List.set_cons_succ]
   have e1:(i+1)*k.n=c1.length+i*k.n:=by rw[l1,Nat.add_mul];omega
   refine⟨c1,c2.take (i*k.n)++es++c2.drop (i*k.n+k.n),?_,h1,ih h2 (by simpa using hi)⟩
   rw[e1,List.take_length_add_append,Nat.add_assoc,List.drop_length_add_append]
   simp
theorem aY.replicate {x:k.T}{es:List Value}(h:Rd w ok k x es)(n:Nat):aY w ok k (List.replicate n x) (List.replicate n es).flatten:=by
 induction n with
 |zero=>rfl
 |succ n ih=>exact⟨es,(List.replicate n es).flatten,by simp[List.replicate_succ],h,ih⟩
theorem aY.alh {e:TypeId}{xs:List k.T}{v:Value}(h:Rd w ok (.sl e k) xs [v]):
  ∃A c cs,v= .slice A xs.length c∧xs.length≤c∧aY w ok k xs cs∧(xs≠[]→∃ad,A=some ad∧ad.block<w.heap.size∧ok ad.block∧∀j u,cs[j]? =some u→w.cell? (ad.add j)=some u):=by
 obtain⟨A,c,hv,hc,hx⟩:=h
 obtain rfl:v= .slice A xs.length c:=by simpa using hv
 have key:∀(ys zs:List k.T),xs=ys++zs→∃cs,aY w ok k zs cs∧∀ad,A=some ad→∀j u,cs[j]? =some u→w.cell? (ad.add (ys.length*k.n+j))=some u:=by
  intro ys zs
  induction zs generalizing ys with
  |nil=>exact fun _=>⟨[],rfl,fun ad _ j u hu=>by simp at hu⟩
  |cons z r ih=>
   intro he
   obtain⟨ad,es,rfl,_,_,hr,hcell⟩:=hx ys.length z (by rw[he];simp)
   obtain⟨cs,h1,h2⟩:=ih (ys++[z]) (by rw[he];simp)
   refine⟨es++cs,⟨es,cs,rfl,hr,h1⟩,fun ad' hA j u hu=> ?_⟩
   obtain rfl:=Option.some.inj hA
   by_cases hj:j<es.length
   ·rw [List.getElem?_append_left hj]at hu;exact hcell j u hu
   ·rw [List.getElem?_append_right (by omega)]at hu
    have:=h2 ad rfl _ _ hu
    have l:=hr.len
    have e:(ys++[z]).length*k.n+(j-es.length)=ys.length*k.n+j:=by
     rw[List.length_append,List.length_singleton,Nat.add_mul];omega
    rwa[e]at this
 obtain⟨cs,h1,h2⟩:=key [] xs rfl
 refine⟨A,c,cs,rfl,hc,h1,fun wH=> ?_⟩
 obtain⟨x,r,rfl⟩:=List.exists_cons_of_ne_nil wH
 obtain⟨ad,es,rfl,hl,ho,_⟩:=hx 0 x rfl
 exact⟨ad,rfl,hl,ho,fun j u hu=>by simpa using h2 ad rfl j u hu⟩
theorem aY.aa4 {e:TypeId}{xs:List k.T}{cs:List Value}(h:aY w ok k xs cs){A:Option Addr}{c:Nat}(hc:xs.length≤c)
  (hA:xs≠[]→∃ad,A=some ad∧ad.block<w.heap.size∧ok ad.block∧∀j u,cs[j]? =some u→w.cell? (ad.add j)=some u):Rd w ok (.sl e k) xs [.slice A xs.length c]:=by
 refine⟨A,c,rfl,hc,fun i x hi=> ?_⟩
 obtain⟨ad,rfl,hl,ho,hcell⟩:=hA (by rintro rfl;simp at hi)
 obtain⟨es,he,hj,_⟩:=h.at_ hi
 exact⟨ad,es,rfl,hl,ho,he,fun j v hv=>hcell _ _ (hj j v hv)⟩
theorem aY.take {xs:List k.T}{cs:List Value}(h:aY w ok k xs cs)(n:Nat):aY w ok k (xs.take n) (cs.take (n*k.n)):=by
 by_cases hn:n≤xs.length
 ·obtain ⟨c1,c2,rfl,h1,h2⟩:=(show aY w ok k (xs.take n++xs.drop n) cs by rw[List.take_append_drop];exact h).split
  have l:=h1.len
  rw[List.length_take,Nat.min_eq_left hn]at l
  rw[←l,List.take_left];exact h1
 ·rw [List.take_of_length_le (by omega),List.take_of_length_le (by rw[h.len];exact Nat.mul_le_mul_right _ (by omega))];exact h
theorem aY.drop {xs:List k.T}{cs:List Value}(h:aY w ok k xs cs)(n:Nat):aY w ok k (xs.drop n) (cs.drop (n*k.n)):=by
 by_cases hn:n≤xs.length
 ·obtain ⟨c1,c2,rfl,h1,h2⟩:=(show aY w ok k (xs.take n++xs.drop n) cs by rw[List.take_append_drop];exact h).split
  have l:=h1.len
  rw[List.length_take,Nat.min_eq_left hn]at l
  rw[←l,List.drop_left];exact h2
 ·rw [List.drop_eq_nil_of_le (by omega),List.drop_eq_nil_of_le (by rw[h.len];exact Nat.mul_le_mul_right _ (by omega))];rfl
end
theorem Addr.nT (a:Addr)(m n:Nat):(a.add m).add n=a.add (m+n):=by
 unfold Addr.add
 by_cases h:m=0<;>by_cases h':n=0<;>simp_all [Nat.add_assoc]
section
variable {w:World} {ok:Nat→Prop} {k:K} {e:TypeId}
theorem Rd.cut {xs:List k.T}{v:Value}(h:Rd w ok (.sl e k) xs [v])(lo hi m:Nat)(h1:lo≤hi)(h2:hi≤xs.length)(A:Option Addr)(c:Nat)(hv:v= .slice A xs.length c)(hm:hi≤m):
  Rd w ok (.sl e k) ((xs.take hi).drop lo) [.slice (if m=lo then A else A.map (·.add (lo*k.n))) (hi-lo) (m-lo)]:=by
 obtain⟨A',c',cs,Cm,hc,he,hA⟩:=aY.alh h
 rw[hv]at Cm
 injection Cm with e1 _ e3
 subst e1 e3
 have hl:((xs.take hi).drop lo).length=hi-lo:=by rw[List.length_drop,List.length_take];omega
 have:=aY.aa4 (e:=e) ((he.take hi).drop lo) (A:=if m=lo then A else A.map (·.add (lo*k.n))) (c:=m-lo) (by rw[hl];omega) (fun wH=> ?_)
 ·rw [hl]at this;exact this
 ·have dX:lo<hi:=by
   rcases Nat.lt_or_ge lo hi with h'|h'
   ·exact h'
   ·exact absurd (List.eq_nil_of_length_eq_zero (by rw[hl];omega)) wH
  obtain⟨ad,rfl,hb,ho,hcell⟩:=hA (by rintro rfl;simp at h2;omega)
  rw[if_neg (by omega)]
  refine⟨ad.add (lo*k.n),rfl,by rw[Addr.gU];exact hb,by rw[Addr.gU];exact ho,fun j u hu=> ?_⟩
  rw[Addr.nT]
  apply hcell
  rw[List.getElem?_drop]at hu
  rw[List.getElem?_take]at hu
  split at hu
  ·exact hu
  ·cases hu
end
def F2 {α β:Type}(R:α→β→Prop):List α→List β→Prop
 |[],[]=>True
 |a::x,b::y=>R a b∧F2 R x y
 |_,_=>False
section
variable {α β:Type} {R R':α→β→Prop}
theorem F2.len:∀{x:List α} {y:List β},F2 R x y→x.length=y.length
 |[],[],_=>rfl
 |_::_,_::_,h=>by simp[F2.len h.2]
theorem F2.imp (H:∀a b,R a b→R' a b):∀{x:List α} {y:List β},F2 R x y→F2 R' x y
 |[],[],_=>trivial
 |_::_,_::_,h=>⟨H _ _ h.1,F2.imp H h.2⟩
theorem F2.imp_mem:∀{x:List α} {y:List β},(∀a b,a∈x→R a b→R' a b)→F2 R x y→F2 R' x y
 |[],[],_,_=>trivial
 |a::x,b::y,H,h=>⟨H _ _ (by simp) h.1,F2.imp_mem (fun a b m=>H a b (by simp[m])) h.2⟩
theorem F2.append:∀{x x':List α} {y y':List β},F2 R x y→F2 R x' y'→F2 R (x++x') (y++y')
 |[],_,[],_,_,h'=>h'
 |_::_,_,_::_,_,h,h'=>⟨h.1,F2.append h.2 h'⟩
theorem F2.take:∀{x:List α} {y:List β} (n:Nat),F2 R x y→F2 R (x.take n) (y.take n)
 |[],[],n,_=>by simp[F2]
 |_::_,_::_,0,_=>trivial
 |_::_,_::_,n+1,h=>⟨h.1,F2.take n h.2⟩
theorem F2.drop:∀{x:List α} {y:List β} (n:Nat),F2 R x y→F2 R (x.drop n) (y.drop n)
 |[],[],n,_=>by simp[F2]
 |_::_,_::_,0,h=>h
 |_::_,_::_,n+1,h=>F2.drop n h.2
theorem F2.get:∀{x:List α} {y:List β},F2 R x y→∀{i:Nat} {a:α},x[i]? =some a→∃b,y[i]? =some b∧R a b
 |[],[],_,i,a,h=>by simp at h
 |a::x,b::y,h,0,a',h'=>by simp at h';subst h';exact⟨b,rfl,h.1⟩
 |a::x,b::y,h,i+1,a',h'=>by simp at h';simpa using F2.get h.2 h'
theorem F2.split:∀{x x':List α} {z:List β},F2 R (x++x') z→∃y y',z=y++y'∧F2 R x y∧F2 R x' y'
 |[],_,z,h=>⟨[],z,rfl,trivial,h⟩
 |a::x,x',b::z,h=>by
  obtain⟨y,y',rfl,h1,h2⟩:=F2.split h.2
  exact⟨b::y,y',rfl,⟨h.1,h1⟩,h2⟩
theorem F2.jk {z:List β}(h:F2 R [] z):z=[]:=by cases z with|nil=>rfl|cons=>exact h.elim
theorem F2.qE {γ:Type}{f:γ→α}:∀{x:List γ} {y:List β},F2 R (x.map f) y↔F2 (fun a b=>R (f a) b) x y
 |[],[]=>Iff.rfl
 |[],_::_=>Iff.rfl
 |_::_,[]=>Iff.rfl
 |_::_,_::_=>and_congr Iff.rfl F2.qE
end
structure Ow where
 rv:List Value
 bb:List (Option Nat)
def o7 (ok may:Nat→Prop)(fr:Bool):Nat→Prop:=fun b=>ok b∧(fr=true→may b)
theorem o7.mono {ok ok' may:Nat→Prop}{fr:Bool}(H:∀b,ok b→ok' b):∀b,o7 ok may fr b→o7 ok' may fr b:=fun b h=>⟨H b h.1,h.2⟩
def yQ:Value→Option Nat
 | .slice (some a) _ _=>some a.block
 | .map (some g)=>some g
 |_=>none
theorem KI {A:Option Addr}{n c:Nat}:yQ (Value.slice A n c)=(Value.slice A n c).ownBlock:=by cases A<;>rfl
theorem jl {v:Value}(h:∃A n c,v= .slice A n c):yQ v=v.ownBlock:=by obtain⟨A,n,c,rfl⟩:=h;exact KI
inductive Th where
 |row (i:Nat)|box (i:Nat)
def eG (o:Ow)(m:Mem):Th→Option Nat
 | .row i=>match m.row? i with
  |some row=>if row.rw=true then(o.rv[i]?).bind yQ else none
  |none=>none
 | .box i=>match m.box? i with
  |some _=>(o.bb[i]?).bind id
  |none=>none
def ay (o:Ow)(m:Mem):Nat→Prop:=fun b=>∀x,eG o m x≠some b
def Om (_:World)(_ _:Nat→Prop)(row:Row)(v:Value):Prop:=∃(g:Nat) (xs:Unit),v= .map (some g)∧row.mp? =some xs∧True
theorem Om.no {w:World}{ok may:Nat→Prop}{row:Row}{v:Value}(h:Om w ok may row v):False:=by
 obtain⟨_,_,_,e,_⟩:=h
 cases e
section
variable (w:World) (ok may:Nat→Prop) (o:Ow)
def aQ:aT→Value→Prop
 | .val fr k x,v=>Rd w (o7 ok may fr) k x [v]
 | .nil,v=>v= .slice none 0 0
 | .own r,v=>o.rv[r]? =some v∧∃A n c,v= .slice A n c
def bG:lM→Value→Prop
 | .lf l,v=>aQ w ok may o l v
 | .agg ls,v=>∃vs:List Value,v= .agg vs.toArray∧F2 (aQ w ok may o) ls vs
def pO:Hd→Value→Prop
 | .uK,v=>v= .pointer none
 | .box b,v=>∃g,o.bb[b]? =some (some g)∧v= .pointer (some ⟨g,0,none⟩)
def aS (m:Mem):SV→Value→Prop
 | .undef,_=>True
 | .one c,v=>bG w ok may o c v
 | .JF cs,v=>∃vs:List Value,v= .tuple vs.toArray∧F2 (bG w ok may o) cs vs
 | .ref ls,v=>∃(ad:Addr) (vs:List Value),v= .pointer (some ad)∧F2 (aQ w ok may o) ls vs∧∀(j:Nat) (u:Value),vs[j]? =some u→ok ad.block∧w.cell? (ad.add j)=some u
 | .Dt r i q,v=>r<m.rows.length∧∀row,m.row? r=some row→i<row.xs.length∧∃g n c,o.rv[r]? =some (.slice (some ⟨g,0,none⟩) n c)∧v= .pointer (some ((⟨g,0,none⟩:Addr).add (i*row.k.n+q)))
 | .box b q,v=>∃g,o.bb[b]? =some (some g)∧v= .pointer (some ((⟨g,0,none⟩:Addr).add q))
 | .sub r q n g,v=>r<m.rows.length∧(∃A L C,o.rv[r]? =some (.slice A L C))∧∀row,m.row? r=some row→q+n≤row.xs.length∧(∃A c,v= .slice A n c∧n≤c)∧
   (0<n→∃γ L C c,o.rv[r]? =some (.slice (some ⟨γ,0,none⟩) L C)∧v= .slice (some ((⟨γ,0,none⟩:Addr).add (q*row.k.n))) n c∧∀δ,g=some δ→γ=δ.1∧C=δ.2)
 | .kX b q g,v=>o.bb[b]? =some (some g)∧v= .pointer (some ((⟨g,0,none⟩:Addr).add q))
 | .hd h,v=>pO o h v
 | .PU h cs,v=>∃(u:Value) (vs:List Value),v= .tuple (u::vs).toArray∧pO o h u∧F2 (bG w ok may o) cs vs
 | .sK e vs i r,v=>Rd w (o7 ok may true) (.sl e .hd) vs [v]∧0≤i∧∃u,vs[i.toNat]? =some u∧o.rv[r]? =some u
def yR (row:Row)(v:Value):Prop:=
 (∃A n c,v= .slice A n c)∧
 if row.rw=true then ∃cs,w.ownsRow 0 row.e row.k.n v row.xs.length cs∧aY w (o7 ok may row.fr) row.k row.xs cs
 else Rd w (o7 ok may row.fr) (.sl row.e row.k) row.xs [v]
def Bh (row:Row)(v:Value):Prop:=yR w ok may row v∨Om w ok may row v
def P8 (bx:pF)(g:Nat):Prop:=∃vs:List Value,w.heap[g]? =some (.cells vs.toArray bx.t (0,0))∧F2 (aQ w ok may o) bx.ls vs
end
structure aC (w:World) (may:Nat→Prop) (o:Ow) (m:Mem):Prop where
 lX:o.rv.length=m.rows.length
 jc:o.bb.length=m.boxes.length
 rows:∀i row,m.row? i=some row→∃v,o.rv[i]? =some v∧Bh w (ay o m) may row v
 boxes:∀i bx,m.box? i=some bx→∃g,o.bb[i]? =some (some g)∧P8 w (ay o m) may o bx g
 qp:∀x y b,eG o m x=some b→eG o m y=some b→x=y
 fH:∀x b,eG o m x=some b→may b∧b<w.heap.size
 free:∀i,i<m.boxes.length→m.box? i=none→o.bb[i]? =some none
theorem aC.sl {w:World}{may:Nat→Prop}{o:Ow}{m:Mem}(M:aC w may o m)(i:Nat)(row:Row)(h:m.row? i=some row){v0:Value}(hv0:o.rv[i]? =some v0)(hs:∃A n c,v0= .slice A n c):∃v,o.rv[i]? =some v∧yR w (ay o m) may row v:=by
 obtain⟨v,hv,R⟩:=M.rows i row h
 obtain rfl:=Option.some.inj (hv0.symm.trans hv)
 rcases R with R|⟨g,xs,e,_⟩
 ·exact ⟨_,hv,R⟩
 ·obtain ⟨A,n,c,rfl⟩:=hs;cases e
structure dZ (may:Nat→Prop) (w:World) (o:Ow) (m:Mem) (w':World) (o':Ow) (m':Mem):Prop where
 stay:iF w (ay o m) w' (ay o' m')
 rv:∀(i:Nat) (v:Value),o.rv[i]? =some v→o'.rv[i]? =some v
 bb:∀(i:Nat) (v:Nat),o.bb[i]? =some (some v)→o'.bb[i]? =some (some v)
 rows:∀r row',r<m.rows.length→m'.row? r=some row'→∃row,m.row? r=some row∧row'.k=row.k∧((∃A n c,o.rv[r]? =some (.slice A n c))→row'.xs.length=row.xs.length)
 Oo:m.rows.length≤m'.rows.length
 size:w.heap.size≤w'.heap.size
 frame:∀b,b<w.heap.size→¬may b→w'.heap[b]? =w.heap[b]?
 os:w'.os=w.os
 tape:w'.tape=w.tape
 output:w'.output=w.output
theorem dZ.refl (may:Nat→Prop)(w:World)(o:Ow)(m:Mem):dZ may w o m w o m:=
 ⟨iF.refl _ _,fun _ _ h=>h,fun _ _ h=>h,fun r row' _ h=>⟨row',h,rfl,fun _=>rfl⟩,Nat.le_refl _,Nat.le_refl _,fun _ _ _=>rfl,rfl,rfl,rfl⟩
theorem dZ.trans {may:Nat→Prop}{w w1 w2:World}{o o1 o2:Ow}{m m1 m2:Mem}(h:dZ may w o m w1 o1 m1)(k:dZ may w1 o1 m1 w2 o2 m2):dZ may w o m w2 o2 m2:=by
 refine⟨h.stay.trans k.stay,fun i v e=>k.rv i v (h.rv i v e),fun i v e=>k.bb i v (h.bb i v e),fun r row' hr e=> ?_,Nat.le_trans h.Oo k.Oo,Nat.le_trans h.size k.size,
  fun b hb hm=>(k.frame b (Nat.lt_of_lt_of_le hb h.size) hm).trans (h.frame b hb hm),k.os.trans h.os,k.tape.trans h.tape,k.output.trans h.output⟩
 obtain⟨Bj,e1,a1,b1⟩:=k.rows r row' (Nat.lt_of_lt_of_le hr h.Oo) e
 obtain⟨row,e2,a2,b2⟩:=h.rows r Bj hr e1
 exact⟨row,e2,a1.trans a2,fun ⟨A,n,c,hs⟩=>(b1 ⟨A,n,c,h.rv _ _ hs⟩).trans (b2 ⟨A,n,c,hs⟩)⟩
theorem iF.o7 {w w':World}{ok ok' may:Nat→Prop}{fr:Bool}(H:iF w ok w' ok'):iF w (Fx.o7 ok may fr) w' (Fx.o7 ok' may fr):=fun b hb h=>
 let⟨a,b',c⟩:=H b hb h.1
 ⟨⟨a,h.2⟩,b',c⟩
section
variable {w w':World} {ok ok' may:Nat→Prop} {o o':Ow}
theorem aQ.aW (H:iF w ok w' ok')(R:∀(i:Nat)(v:Value),o.rv[i]? =some v→o'.rv[i]? =some v):∀{l:aT} {v:Value},aQ w ok may o l v→aQ w' ok' may o' l v
 | .val _ _ _,_,h=>Rd.aW H.o7 h
 | .nil,_,h=>h
 | .own r,v,h=>⟨R r v h.1,h.2⟩
theorem bG.aW (H:iF w ok w' ok')(R:∀(i:Nat)(v:Value),o.rv[i]? =some v→o'.rv[i]? =some v):∀{c:lM} {v:Value},bG w ok may o c v→bG w' ok' may o' c v
 | .lf _,_,h=>aQ.aW H R h
 | .agg _,_,⟨vs,e,h⟩=>⟨vs,e,h.imp fun _ _ h=>aQ.aW H R h⟩
theorem aQ.one:∀{l:aT} {v:Value},aQ w ok may o l v→v.oneCell'=true
 | .val _ _ _,_,h=>Rd.one h _ (by simp)
 | .nil,_,h=>by obtain rfl:=h;rfl
 | .own _,_,⟨_,_,_,_,rfl⟩=>rfl
theorem uD {v:Value}(h:v.oneCell'=true):v.cells= #[v]:=by cases v<;>simp_all [Value.oneCell',Value.cells]
theorem bG.cells:∀{c:lM} {v:Value},bG w ok may o c v→F2 (aQ w ok may o) c.leaves v.cells.toList
 | .lf _,_,h=>by rw[uD (aQ.one h)];exact⟨h,trivial⟩
 | .agg _,_,⟨vs,e,h⟩=>by subst e;simpa[Value.cells,lM.leaves]using h
end
theorem F2.afb {w:World}{ok may:Nat→Prop}{o:Ow}:∀{ls:List aT} {vs:List Value},F2 (aQ w ok may o) ls vs→∀u∈vs,u.oneCell'=true
 |[],[],_,u,h=>by simp at h
 |_::_,_::_,h,u,hu=>by
  rcases List.mem_cons.1 hu with rfl|hu
  ·exact h.1.one
  ·exact F2.afb h.2 u hu
theorem pO.aW {o o':Ow}(B:∀(i:Nat)(v:Nat),o.bb[i]? =some (some v)→o'.bb[i]? =some (some v)):∀{h:Hd} {v:Value},pO o h v→pO o' h v
 | .uK,_,h=>h
 | .box _,_,⟨g,e,h⟩=>⟨g,B _ _ e,h⟩
theorem aS.aW {may:Nat→Prop}{w w':World}{o o':Ow}{m m':Mem}(K:dZ may w o m w' o' m'):
  ∀{sv:SV} {v:Value},aS w (ay o m) may o m sv v→aS w' (ay o' m') may o' m' sv v
 | .undef,_,_=>trivial
 | .one _,_,h=>bG.aW K.stay K.rv h
 | .JF _,_,⟨vs,e,h⟩=>⟨vs,e,h.imp fun _ _ h=>bG.aW K.stay K.rv h⟩
 | .ref _,_,⟨ad,vs,e,h,hc⟩=>by
  refine⟨ad,vs,e,h.imp fun _ _ h=>aQ.aW K.stay K.rv h,fun j u hu=> ?_⟩
  obtain⟨ho,hcell⟩:=hc j u hu
  have hl:=DW hcell
  rw[Addr.gU]at hl
  exact⟨(K.stay _ hl ho).1,K.stay.cell (by rw[Addr.gU];exact ho) hcell⟩
 | .Dt r i q,v,⟨hr,h⟩=>⟨Nat.lt_of_lt_of_le hr K.Oo,fun row' e=>by
  obtain⟨row,e1,e2,e3⟩:=K.rows r row' hr e
  obtain⟨hi,g,n,c,e4,e5⟩:=h row e1
  have e3:=e3 ⟨_,_,_,e4⟩
  exact⟨by omega,g,n,c,K.rv _ _ e4,by rw[e5,e2]⟩⟩
 | .box b q,v,⟨g,e,h⟩=>⟨g,K.bb _ _ e,h⟩
 | .sub r q n g,v,⟨hr,sK,h⟩=>⟨Nat.lt_of_lt_of_le hr K.Oo,sK.imp fun _ h=>h.imp fun _ h=>h.imp fun _ h=>K.rv _ _ h,fun row' e=>by
  obtain⟨row,e1,e2,e3⟩:=K.rows r row' hr e
  have e3:=e3 sK
  obtain⟨hi,hv,hp⟩:=h row e1
  refine⟨by omega,hv,fun hn=> ?_⟩
  obtain⟨γ,L,C,c,e4,e5,e6⟩:=hp hn
  exact⟨γ,L,C,c,K.rv _ _ e4,by rw[e5,e2],e6⟩⟩
 | .kX b q g,v,⟨e,h⟩=>⟨K.bb _ _ e,h⟩
 | .hd _,v,h=>pO.aW K.bb h
 | .sK _ _ _ _,v,⟨h,h0,u,h1,h2⟩=>⟨Rd.aW K.stay.o7 h,h0,u,h1,K.rv _ _ h2⟩
 | .PU _ _,v,⟨u,vs,e,h1,h2⟩=>⟨u,vs,e,pO.aW K.bb h1,h2.imp fun _ _ h=>bG.aW K.stay K.rv h⟩
section
variable {m:Mem}
theorem row?_lt {r:Nat}{row:Row}(h:m.row? r=some row):r<m.rows.length:=by
 unfold Mem.row? at h
 rcases Nat.lt_or_ge r m.rows.length with h'|h'
 ·exact h'
 ·rw [List.getElem?_eq_none h']at h;cases h
theorem box?_lt {r:Nat}{bx:pF}(h:m.box? r=some bx):r<m.boxes.length:=by
 unfold Mem.box? at h
 rcases Nat.lt_or_ge r m.boxes.length with h'|h'
 ·exact h'
 ·rw [List.getElem?_eq_none h']at h;cases h
theorem row?_set (r i:Nat)(x:Option Row)(b:List (Option pF)):(⟨m.rows.set r x,b⟩:Mem).row? i=if i=r∧r<m.rows.length then x else m.row? i:=by
 unfold Mem.row?
 simp only[List.getElem?_set]
 by_cases h:r=i
 ·subst h
  by_cases h':r<m.rows.length
  ·simp [h']
  ·simp [h',List.getElem?_eq_none (Nat.le_of_not_lt h')]
 ·rw [if_neg h,if_neg (by omega)]
theorem row?Jj (l:List (Option Row))(i:Nat)(b:List (Option pF)):(⟨m.rows++l,b⟩:Mem).row? i=if i<m.rows.length then m.row? i else(l[i-m.rows.length]?).bind id:=by
 unfold Mem.row?
 by_cases h:i<m.rows.length
 ·simp [h,List.getElem?_append_left h]
 ·simp [h,List.getElem?_append_right (Nat.le_of_not_lt h)]
theorem box?_set (r i:Nat)(x:Option pF)(l:List (Option Row)):(⟨l,m.boxes.set r x⟩:Mem).box? i=if i=r∧r<m.boxes.length then x else m.box? i:=by
 unfold Mem.box?
 simp only[List.getElem?_set]
 by_cases h:r=i
 ·subst h
  by_cases h':r<m.boxes.length
  ·simp [h']
  ·simp [h',List.getElem?_eq_none (Nat.le_of_not_lt h')]
 ·rw [if_neg h,if_neg (by omega)]
theorem box?Jj (l:List (Option pF))(i:Nat)(q:List (Option Row)):(⟨q,m.boxes++l⟩:Mem).box? i=if i<m.boxes.length then m.box? i else(l[i-m.boxes.length]?).bind id:=by
 unfold Mem.box?
 by_cases h:i<m.boxes.length
 ·simp [h,List.getElem?_append_left h]
 ·simp [h,List.getElem?_append_right (Nat.le_of_not_lt h)]
end
section
variable {w w':World} {may:Nat→Prop} {o:Ow} {m:Mem}
theorem yR.aW {ok ok':Nat→Prop}{row:Row}{v:Value}(h:yR w ok may row v)(H:iF w ok w' ok')
  (hb:row.rw=true→∀b,yQ v=some b→w'.heap[b]? =w.heap[b]?):yR w' ok' may row v:=by
 obtain⟨hs,h⟩:=h
 refine⟨hs,?_⟩
 cases hr:row.rw with
 |false=>rw[hr]at h;simp only[Bool.false_eq_true,if_false]at h⊢;exact Rd.aW H.o7 h
 |true=>
  rw[hr]at h
  simp only[if_true]at h⊢
  obtain⟨cs,h1,h2⟩:=h
  refine⟨cs,⟨h1.1,?_⟩,h2.aW H.o7⟩
  rcases h1.2 with h1|⟨g,cap,cur,rfl,hg,hh,rest⟩
  ·exact .inl h1
  ·exact .inr ⟨g,cap,cur,rfl,hg,by rw[hb hr g rfl];exact hh,rest⟩
theorem Om.aW {ok ok':Nat→Prop}{row:Row}{v:Value}(h:Om w ok may row v)(H:iF w ok w' ok')
  (hb:row.rw=true→∀b,yQ v=some b→w'.heap[b]? =w.heap[b]?):Om w' ok' may row v:=h
theorem Bh.aW {ok ok':Nat→Prop}{row:Row}{v:Value}(h:Bh w ok may row v)(H:iF w ok w' ok')
  (hb:row.rw=true→∀b,yQ v=some b→w'.heap[b]? =w.heap[b]?):Bh w' ok' may row v:=
 h.imp (·.aW H hb) (·.aW H hb)
theorem P8.aW {ok ok':Nat→Prop}{o':Ow}{bx:pF}{g:Nat}(h:P8 w ok may o bx g)(H:iF w ok w' ok')(R:∀(i:Nat)(v:Value),o.rv[i]? =some v→o'.rv[i]? =some v)
  (hb:w'.heap[g]? =w.heap[g]?):P8 w' ok' may o' bx g:=by
 obtain⟨vs,h1,h2⟩:=h
 exact⟨vs,by rw[hb];exact h1,h2.imp fun _ _ h=>aQ.aW H R h⟩
theorem ownsRow.slice {e:TypeId}{n size:Nat}{v:Value}{cs:List Value}(h:w.ownsRow 0 e size v n cs):∃A c,v= .slice A n c:=by
 rcases h.2 with⟨rfl,rfl⟩|⟨g,cap,cur,rfl,_⟩
 ·exact ⟨none,0,rfl⟩
 ·exact ⟨_,_,rfl⟩
theorem yR.read {ok ok':Nat→Prop}{row:Row}{v:Value}(h:yR w ok may row v)(lU:∀b,ok b→ok' b)
  (hb:row.rw=true→∀b,yQ v=some b→ok' b∧may b):Rd w (o7 ok' may row.fr) (.sl row.e row.k) row.xs [v]:=by
 obtain⟨hs,h⟩:=h
 cases hr:row.rw with
 |false=>rw[hr]at h;simp only[Bool.false_eq_true,if_false]at h;exact Rd.mono (o7.mono lU) h
 |true=>
  rw[hr]at h
  simp only[if_true]at h
  obtain⟨cs,h1,h2⟩:=h
  have h3:aY w (o7 ok' may row.fr) row.k row.xs cs:=h2.aW (iF.mono fun b _=>o7.mono lU b)
  obtain⟨A,c,rfl⟩:=ownsRow.slice h1
  refine h3.aa4 ?_ fun wH=> ?_
  ·rcases h1.2 with⟨h4,h5⟩|⟨g,cap,cur,h4,hg,hh,hn,rest⟩
   ·omega
   ·injection h4 with _ _ h4;omega
  ·rcases h1.2 with⟨h4,h5⟩|⟨g,cap,cur,h4,hg,hh,hn,rest⟩
   ·exact absurd (List.eq_nil_of_length_eq_zero h5) wH
   ·injection h4 with h4 _ h6
    subst h4
    obtain⟨a,b⟩:=hb hr g rfl
    exact⟨_,rfl,(Array.getElem?_eq_some_iff.1 hh).1,⟨a,fun _=>b⟩,fun j u hu=>World.ownsRow.cells h1 (g:=g) rfl j u hu⟩
theorem fF {r:Nat}{row:Row}{v:Value}(h:m.row? r=some row)(hv:o.rv[r]? =some v)(hr:row.rw=true):eG o m (.row r)=yQ v:=by
 simp[eG,h,hr,hv]
theorem EK {r:Nat}(h:m.row? r=none):eG o m (.row r)=none:=by simp[eG,h]
theorem EL {r:Nat}{row:Row}(h:m.row? r=some row)(hr:row.rw=false):eG o m (.row r)=none:=by simp[eG,h,hr]
theorem jf {b g:Nat}{bx:pF}(h:m.box? b=some bx)(hv:o.bb[b]? =some (some g)):eG o m (.box b)=some g:=by simp[eG,h,hv]
theorem aC.weaken {m':Mem}(M:aC w may o m)(hb:m'.boxes=m.boxes)(hl:m'.rows.length=m.rows.length)
  (hr:∀i row',m'.row? i=some row'→∃row,m.row? i=some row∧row'.e=row.e∧(∃e:row'.k=row.k,e▸row'.xs=row.xs)∧(row'.rw=true→row.rw=true)∧(row'.fr=true→row.fr=true)):
  aC w may o m'∧dZ may w o m w o m':=by
 have yN:∀i,m'.box? i=m.box? i:=fun i=>by unfold Mem.box?;rw[hb]
 have jX:∀x b,eG o m' x=some b→eG o m x=some b:=by
  intro x b h
  cases x with
  |box i=>simpa[eG,yN]using h
  |row i=>
   cases e:m'.row? i with
   |none=>rw[EK e]at h;cases h
   |some row'=>
    obtain⟨row,e1,_,_,e2,_⟩:=hr i row' e
    cases Dl:row'.rw with
    |false=>rw[EL e Dl]at h;cases h
    |true=>
     simp only[eG,e,Dl,if_true]at h
     simp only[eG,e1,e2 Dl,if_true]
     exact h
 have lU:∀b,ay o m b→ay o m' b:=fun b h x e=>h x (jX x b e)
 have S:iF w (ay o m) w (ay o m'):=iF.mono fun b _=>lU b
 refine⟨⟨by rw[hl];exact M.lX,by rw[hb];exact M.jc,fun i row' e=> ?_,fun i bx e=> ?_,fun x y b h k=>M.qp x y b (jX _ _ h) (jX _ _ k),fun x b h=>M.fH x b (jX x b h),fun i hi e=>M.free i (by rw[←hb];exact hi) (by rw[←yN];exact e)⟩,
  ⟨S,fun _ _ h=>h,fun _ _ h=>h,fun r row' dX e=> ?_,by omega,Nat.le_refl _,fun _ _ _=>rfl,rfl,rfl,rfl⟩⟩
 ·obtain ⟨row,e1,e2,⟨e3,e4⟩,e5,e6⟩:=hr i row' e
  obtain⟨v,hv,R⟩:=M.rows i row e1
  refine⟨v,hv,?_⟩
  obtain⟨te,tk,tfr,trw,txs⟩:=row'
  obtain⟨ue,uk,ufr,urw,uxs⟩:=row
  simp only at e2 e3 e4 e5 e6
  subst e2 e3
  simp only at e4
  subst e4
  have vF:∀b,o7 (ay o m) may ufr b→o7 (ay o m') may tfr b:=fun b h=>⟨lU b h.1,fun z=>h.2 (e6 z)⟩
  cases trw with
  |true=>
   have hu:=e5 rfl
   subst hu
   rcases R with⟨hs,cs,h1,h2⟩|R
   ·exact .inl ⟨hs,by simp only[if_true];exact⟨cs,h1,h2.aW (iF.mono fun b _=>vF b)⟩⟩
   ·exact R.no.elim
  |false=>
   have R_:urw=true→∀b,yQ v=some b→ay o m' b∧may b:=fun Dl b hvb=>by
    have wQ:eG o m (.row i)=some b:=by rw[fF e1 hv Dl];exact hvb
    refine⟨fun x hx=> ?_,(M.fH _ _ wQ).1⟩
    have:=M.qp x (.row i) b (jX x b hx) wQ
    subst this
    rw[EL e rfl]at hx
    cases hx
   rcases R with R|R
   ·refine .inl ⟨R.1,?_⟩
    simp only[Bool.false_eq_true,if_false]
    exact Rd.mono (fun b h=>⟨h.1,fun z=>h.2 (e6 z)⟩) (R.read (ok':=ay o m') lU R_)
   ·exact R.no.elim
 ·rw [yN]at e
  obtain⟨g,hg,B⟩:=M.boxes i bx e
  exact⟨g,hg,B.aW S (fun _ _ h=>h) rfl⟩
 ·obtain ⟨row,e1,_,⟨e3,e4⟩,_⟩:=hr r row' e
  refine⟨row,e1,e3,?_⟩
  obtain⟨te,tk,tfr,trw,txs⟩:=row'
  obtain⟨ue,uk,ufr,urw,uxs⟩:=row
  simp only at e3 e4
  subst e3
  simp only at e4
  subst e4
  exact fun _=>rfl
theorem row?vT (r i:Nat):(m.freeze (.own r)).row? i=if i=r then(m.row? r).map (fun row=>{row with rw:=false})else m.row? i:=by
 unfold Mem.freeze Mem.row?
 simp only[List.getElem?_modify]
 by_cases h:r=i
 ·subst h
  simp only[if_true]
  cases m.rows[r]? with
  |none=>rfl
  |some x=>cases x<;>rfl
 ·simp only[if_neg h,if_neg (show ¬i=r by omega)]
  cases m.rows[i]? <;>rfl
theorem aC.freeze (M:aC w may o m)(l:aT):aC w may o (m.freeze l)∧dZ may w o m w o (m.freeze l):=by
 cases l with
 |val fr k x=>exact⟨M,dZ.refl _ _ _ _⟩
 |nil=>exact⟨M,dZ.refl _ _ _ _⟩
 |own r=>
  refine M.weaken rfl (by simp[Mem.freeze]) fun i row' e=> ?_
  rw[row?vT]at e
  by_cases h:i=r
  ·subst h
   rw[if_pos rfl]at e
   obtain⟨row,e1,rfl⟩:=Option.map_eq_some_iff.1 e
   exact⟨row,e1,rfl,⟨rfl,rfl⟩,fun h=>(by cases h),id⟩
  ·rw [if_neg h]at e
   exact⟨row',e,rfl,⟨rfl,rfl⟩,id,id⟩
theorem aC.aI (M:aC w may o m)(ls:List aT):aC w may o (m.aI ls)∧dZ may w o m w o (m.aI ls):=by
 induction ls generalizing m with
 |nil=>exact⟨M,dZ.refl _ _ _ _⟩
 |cons l r ih=>
  obtain⟨M1,K1⟩:=M.freeze l
  obtain⟨M2,K2⟩:=ih M1
  exact⟨M2,K1.trans K2⟩
theorem aC.aiJ (M:aC w may o m)(r:Nat)(row':Row)(v':Value)
  (pY:w.heap.size≤w'.heap.size) (KJ:w'.os=w.os) (ht:w'.tape=w.tape) (wR:w'.output=w.output)
  (jd:∀b,b<w.heap.size→eG o m (.row r)≠some b→w'.heap[b]? =w.heap[b]?)
  (Dl:row'.rw=true) (hR:∀ok',iF w (ay o m) w' ok'→Bh w' ok' may row' v')
  (nY:∀b,yQ v'=some b→may b∧b<w'.heap.size∧(w.heap.size≤b∨eG o m (.row r)=some b)):
  aC w' may ⟨o.rv++[v'],o.bb⟩ ⟨m.rows.set r none++[some row'],m.boxes⟩∧dZ may w o m w' ⟨o.rv++[v'],o.bb⟩ ⟨m.rows.set r none++[some row'],m.boxes⟩:=by
 have tH:∀i,(⟨m.rows.set r none++[some row'],m.boxes⟩:Mem).row? i=if i<m.rows.length then(if i=r then none else m.row? i)else if i=m.rows.length then some row' else none:=by
  intro i
  have h1:=row?Jj (m:=⟨m.rows.set r none,m.boxes⟩) [some row'] i m.boxes
  simp only[List.length_set]at h1
  rw[h1,row?_set]
  by_cases h:i<m.rows.length
  ·simp only[h,if_true]
   by_cases h2:i=r
   ·subst h2;simp[h]
   ·simp [h2]
  ·simp only[h,if_false]
   by_cases h2:i=m.rows.length
   ·subst h2;simp
   ·rw [if_neg h2]
    have:([some row']:List (Option Row))[i-m.rows.length]? =none:=List.getElem?_eq_none (by simp;omega)
    rw[this];rfl
 have VN:∀i v,o.rv[i]? =some v→(o.rv++[v'])[i]? =some v:=fun i v h=>by
  rw[List.getElem?_append_left (List.getElem?_eq_some_iff.1 h).1];exact h
 have rU:(o.rv++[v'])[m.rows.length]? =some v':=by rw[←M.lX];simp
 have jX:∀x b,eG ⟨o.rv++[v'],o.bb⟩ ⟨m.rows.set r none++[some row'],m.boxes⟩ x=some b→(x= .row m.rows.length∧yQ v'=some b)∨(eG o m x=some b∧x≠.row r∧x≠.row m.rows.length):=by
  intro x b h
  cases x with
  |box i=>exact .inr ⟨h,by simp,by simp⟩
  |row i=>
   simp only[eG,tH]at h
   by_cases h1:i<m.rows.length
   ·simp only[h1,if_true]at h
    by_cases h2:i=r
    ·simp [h2]at h
    ·simp only[h2,if_false]at h
     refine .inr ⟨?_,by simpa using h2,by simp;omega⟩
     simp only[eG]
     cases e:m.row? i with
     |none=>rw[e]at h;cases h
     |some row=>
      rw[e]at h
      simp only at h⊢
      cases hw:row.rw with
      |false=>rw[hw]at h;cases h
      |true=>
       rw[hw]at h
       rw[List.getElem?_append_left (by rw[M.lX];exact h1)]at h
       exact h
   ·simp only[h1,if_false]at h
    by_cases h2:i=m.rows.length
    ·subst h2
     simp only[if_true,Dl,rU]at h
     exact .inl ⟨rfl,h⟩
    ·simp [h2]at h
 have lU:∀b,b<w.heap.size→ay o m b→ay ⟨o.rv++[v'],o.bb⟩ ⟨m.rows.set r none++[some row'],m.boxes⟩ b:=by
  intro b hb h x hx
  rcases jX x b hx with⟨_,h1⟩|⟨h1,_⟩
  ·rcases (nY b h1).2.2 with h2|h2
   ·omega
   ·exact h _ h2
  ·exact h _ h1
 have S:iF w (ay o m) w' (ay ⟨o.rv++[v'],o.bb⟩ ⟨m.rows.set r none++[some row'],m.boxes⟩):=
  fun b hb h=>⟨lU b hb h,by omega,jd b hb (h _)⟩
 refine⟨⟨by simp[M.lX],M.jc,fun i row e=> ?_,fun i bx e=> ?_,fun x y b h k=> ?_,fun x b h=> ?_,M.free⟩,⟨S,VN,fun _ _ h=>h,fun q row q1 e=> ?_,by simp,pY,fun b hb hm=> ?_,KJ,ht,wR⟩⟩
 ·rw [tH]at e
  by_cases h1:i<m.rows.length
  ·simp only[h1,if_true]at e
   by_cases h2:i=r
   ·simp [h2]at e
   ·simp only[h2,if_false]at e
    obtain⟨v,hv,R⟩:=M.rows i row e
    refine⟨v,VN i v hv,R.aW S fun hw b hb=> ?_⟩
    have wQ:eG o m (.row i)=some b:=by rw[fF e hv hw];exact hb
    refine jd b (M.fH _ _ wQ).2 fun h=>h2 ?_
    have:=M.qp _ _ b wQ h
    simpa using this
  ·simp only[h1,if_false]at e
   by_cases h2:i=m.rows.length
   ·subst h2
    simp only[if_true]at e
    obtain rfl:=Option.some.inj e
    exact⟨v',rU,hR _ S⟩
   ·simp [h2]at e
 ·obtain ⟨g,hg,B⟩:=M.boxes i bx e
  have wQ:eG o m (.box i)=some g:=jf e hg
  exact⟨g,hg,B.aW S VN (jd g (M.fH _ _ wQ).2 fun h=>(by have:=M.qp _ _ g wQ h;simp at this))⟩
 ·rcases jX x b h with⟨h1,h2⟩|⟨h1,h2,h3⟩<;>rcases jX y b k with⟨k1,k2⟩|⟨k1,k2,k3⟩
  ·rw [h1,k1]
  ·rcases (nY b h2).2.2 with h4|h4
   ·have:=(M.fH _ _ k1).2;omega
   ·exact absurd (M.qp _ _ b k1 h4) k2
  ·rcases (nY b k2).2.2 with h4|h4
   ·have:=(M.fH _ _ h1).2;omega
   ·exact absurd (M.qp _ _ b h1 h4) h2
  ·exact M.qp _ _ b h1 k1
 ·rcases jX x b h with⟨h1,h2⟩|⟨h1,h2,h3⟩
  ·exact ⟨(nY b h2).1,(nY b h2).2.1⟩
  ·have:=M.fH _ _ h1;exact⟨this.1,by omega⟩
 ·rw [tH]at e
  simp only[q1,if_true]at e
  by_cases h2:q=r
  ·simp [h2]at e
  ·simp only[h2,if_false]at e
   exact⟨row,e,rfl,fun _=>rfl⟩
 ·exact jd b hb fun h=>hm (M.fH _ _ h).1
theorem yR.of {row':Row}{v':Value}(Dl:row'.rw=true){cs:List Value}(dM:w'.ownsRow 0 row'.e row'.k.n v' row'.xs.length cs){ok ok':Nat→Prop}(lQ:aY w (o7 ok may row'.fr) row'.k row'.xs cs)(S:iF w ok w' ok'):Bh w' ok' may row' v':=
 .inl ⟨ownsRow.slice dM |> fun ⟨A,c,h⟩=>⟨A,_,c,h⟩,by rw[Dl];simp only[if_true];exact⟨cs,dM,lQ.aW S.o7⟩⟩
theorem aC.renew (M:aC w may o m)(r:Nat)(row':Row)(v':Value)
  (pY:w.heap.size≤w'.heap.size) (KJ:w'.os=w.os) (ht:w'.tape=w.tape) (wR:w'.output=w.output)
  (jd:∀b,b<w.heap.size→eG o m (.row r)≠some b→w'.heap[b]? =w.heap[b]?)
  (Dl:row'.rw=true) (cs:List Value) (dM:w'.ownsRow 0 row'.e row'.k.n v' row'.xs.length cs) (lQ:aY w (o7 (ay o m) may row'.fr) row'.k row'.xs cs)
  (nY:∀b,v'.ownBlock=some b→may b∧b<w'.heap.size∧(w.heap.size≤b∨eG o m (.row r)=some b)):
  aC w' may ⟨o.rv++[v'],o.bb⟩ ⟨m.rows.set r none++[some row'],m.boxes⟩∧dZ may w o m w' ⟨o.rv++[v'],o.bb⟩ ⟨m.rows.set r none++[some row'],m.boxes⟩:=
 M.aiJ r row' v' pY KJ ht wR jd Dl (fun _ S=>yR.of Dl dM lQ S) fun b hb=>nY b (by rw[←hb,jl (ownsRow.slice dM |> fun ⟨A,c,h⟩=>⟨A,_,c,h⟩)])
theorem aC.add (M:aC w may o m)(row':Row)(v':Value)
  (pY:w.heap.size≤w'.heap.size) (KJ:w'.os=w.os) (ht:w'.tape=w.tape) (wR:w'.output=w.output)
  (jd:∀b,b<w.heap.size→w'.heap[b]? =w.heap[b]?)
  (Dl:row'.rw=true) (cs:List Value) (dM:w'.ownsRow 0 row'.e row'.k.n v' row'.xs.length cs) (lQ:aY w (o7 (ay o m) may row'.fr) row'.k row'.xs cs)
  (nY:∀b,v'.ownBlock=some b→may b∧b<w'.heap.size∧w.heap.size≤b):
  aC w' may ⟨o.rv++[v'],o.bb⟩ ⟨m.rows++[some row'],m.boxes⟩∧dZ may w o m w' ⟨o.rv++[v'],o.bb⟩ ⟨m.rows++[some row'],m.boxes⟩:=by
 have:=M.renew (w':=w') m.rows.length row' v' pY KJ ht wR (fun b hb _=>jd b hb) Dl cs dM lQ (fun b hb=>⟨(nY b hb).1,(nY b hb).2.1,.inl (nY b hb).2.2⟩)
 rwa[List.set_eq_of_length_le (Nat.le_refl _)]at this
theorem aC.aiK (M:aC w may o m)(r:Nat)(row row':Row)(v:Value)(hr:m.row? r=some row)(hv:o.rv[r]? =some v)(Dl:row.rw=true)
  (hk:row'.k=row.k) (hl:(∃A n c,v= .slice A n c)→row'.xs.length=row.xs.length) (Y7:row'.rw=true)
  (pY:w.heap.size≤w'.heap.size) (KJ:w'.os=w.os) (ht:w'.tape=w.tape) (wR:w'.output=w.output)
  (jd:∀b,b<w.heap.size→yQ v≠some b→w'.heap[b]? =w.heap[b]?)
  (hR:∀ok',iF w (ay o m) w' ok'→Bh w' ok' may row' v):
  aC w' may o ⟨m.rows.set r (some row'),m.boxes⟩∧dZ may w o m w' o ⟨m.rows.set r (some row'),m.boxes⟩:=by
 have dX:=row?_lt hr
 have tH:∀i,(⟨m.rows.set r (some row'),m.boxes⟩:Mem).row? i=if i=r then some row' else m.row? i:=fun i=>by
  rw[row?_set];simp[dX]
 have VO:eG o m (.row r)=yQ v:=fF hr hv Dl
 have heq:∀x,eG o ⟨m.rows.set r (some row'),m.boxes⟩ x=eG o m x:=by
  intro x
  cases x with
  |box i=>rfl
  |row i=>
   by_cases h:i=r
   ·subst h;rw[VO];exact fF (by rw[tH,if_pos rfl]) hv Y7
   ·simp only[eG,tH,if_neg h]
 have lU:∀b,ay o m b→ay o ⟨m.rows.set r (some row'),m.boxes⟩ b:=fun b h x=>by rw[heq];exact h x
 have S:iF w (ay o m) w' (ay o ⟨m.rows.set r (some row'),m.boxes⟩):=fun b hb h=>⟨lU b h,by omega,jd b hb (by rw[←VO];exact h _)⟩
 refine⟨⟨by simpa using M.lX,M.jc,fun i Bj e=> ?_,fun i bx e=> ?_,fun x y b h k=>M.qp x y b (by rwa[heq]at h) (by rwa[heq]at k),fun x b h=>by rw[heq]at h;have:=M.fH x b h;exact⟨this.1,by omega⟩,M.free⟩,
  ⟨S,fun _ _ h=>h,fun _ _ h=>h,fun q Bj q1 e=> ?_,by simp,by omega,fun b hb hm=> ?_,KJ,ht,wR⟩⟩
 ·rw [tH]at e
  by_cases h:i=r
  ·subst h
   rw[if_pos rfl]at e
   obtain rfl:=Option.some.inj e
   exact⟨v,hv,hR _ S⟩
  ·rw [if_neg h]at e
   obtain⟨u,hu,R⟩:=M.rows i Bj e
   refine⟨u,hu,R.aW S fun hw b hb=> ?_⟩
   have wQ:eG o m (.row i)=some b:=by rw[fF e hu hw];exact hb
   refine jd b (M.fH _ _ wQ).2 fun h'=>h ?_
   have:=M.qp _ _ b wQ (VO.trans h')
   simpa using this
 ·obtain ⟨g,hg,B⟩:=M.boxes i bx e
  have wQ:eG o m (.box i)=some g:=jf e hg
  exact⟨g,hg,B.aW S (fun _ _ h=>h) (jd g (M.fH _ _ wQ).2 fun h=>(by have:=M.qp _ _ g wQ (VO.trans h);simp at this))⟩
 ·rw [tH]at e
  by_cases h:q=r
  ·subst h
   rw[if_pos rfl]at e
   obtain rfl:=Option.some.inj e
   exact⟨row,hr,hk,fun ⟨A,n,c,h⟩=>hl ⟨A,n,c,Option.some.inj (hv.symm.trans h)⟩⟩
  ·rw [if_neg h]at e;exact⟨Bj,e,rfl,fun _=>rfl⟩
 ·exact jd b hb fun h=>hm (M.fH _ _ (VO.trans h)).1
theorem aC.aa5 (M:aC w may o m)(r:Nat)(row row':Row)(v:Value)(hr:m.row? r=some row)(hv:o.rv[r]? =some v)(Dl:row.rw=true)
  (hk:row'.k=row.k) (hl:row'.xs.length=row.xs.length) (Y7:row'.rw=true)
  (pY:w.heap.size≤w'.heap.size) (KJ:w'.os=w.os) (ht:w'.tape=w.tape) (wR:w'.output=w.output)
  (jd:∀b,b<w.heap.size→v.ownBlock≠some b→w'.heap[b]? =w.heap[b]?)
  (cs:List Value) (dM:w'.ownsRow 0 row'.e row'.k.n v row'.xs.length cs) (lQ:aY w (o7 (ay o m) may row'.fr) row'.k row'.xs cs):
  aC w' may o ⟨m.rows.set r (some row'),m.boxes⟩∧dZ may w o m w' o ⟨m.rows.set r (some row'),m.boxes⟩:=
 M.aiK r row row' v hr hv Dl hk (fun _=>hl) Y7 pY KJ ht wR (fun b hb h=>jd b hb fun e=>h (by rw[←e,jl (ownsRow.slice dM |> fun ⟨A,c,h⟩=>⟨A,_,c,h⟩)])) (fun _ S=>yR.of Y7 dM lQ S)
theorem aC.write (M:aC w may o m)(r:Nat)(row row':Row)(v:Value)(hr:m.row? r=some row)(hv:o.rv[r]? =some v)(Dl:row.rw=true)
  (hk:row'.k=row.k) (hl:row'.xs.length=row.xs.length) (Y7:row'.rw=true)
  (pY:w'.heap.size=w.heap.size) (KJ:w'.os=w.os) (ht:w'.tape=w.tape) (wR:w'.output=w.output)
  (jd:∀b,b<w.heap.size→v.ownBlock≠some b→w'.heap[b]? =w.heap[b]?)
  (cs:List Value) (dM:w'.ownsRow 0 row'.e row'.k.n v row'.xs.length cs) (lQ:aY w (o7 (ay o m) may row'.fr) row'.k row'.xs cs):
  aC w' may o ⟨m.rows.set r (some row'),m.boxes⟩∧dZ may w o m w' o ⟨m.rows.set r (some row'),m.boxes⟩:=
 M.aa5 r row row' v hr hv Dl hk hl Y7 (Nat.le_of_eq pY.symm) KJ ht wR jd cs dM lQ
theorem aC.P9 (M:aC w may o m)(bx:pF)(vs:List Value)(hm:may w.heap.size)(h:F2 (aQ w (ay o m) may o) bx.ls vs):
  aC (w.alloc (.cells vs.toArray bx.t)) may ⟨o.rv,o.bb++[some w.heap.size]⟩ ⟨m.rows,m.boxes++[some bx]⟩∧
  dZ may w o m (w.alloc (.cells vs.toArray bx.t)) ⟨o.rv,o.bb++[some w.heap.size]⟩ ⟨m.rows,m.boxes++[some bx]⟩:=by
 have pY:(w.alloc (.cells vs.toArray bx.t)).heap.size=w.heap.size+1:=by simp
 have jd:∀b,b<w.heap.size→(w.alloc (.cells vs.toArray bx.t)).heap[b]? =w.heap[b]? :=fun b hb=>heap_alloc_old w _ b hb
 have sO:∀i,(⟨m.rows,m.boxes++[some bx]⟩:Mem).box? i=if i<m.boxes.length then m.box? i else if i=m.boxes.length then some bx else none:=by
  intro i
  rw[box?Jj]
  by_cases h:i<m.boxes.length
  ·simp [h]
  ·simp only[h,if_false]
   by_cases h2:i=m.boxes.length
   ·subst h2;simp
   ·rw [if_neg h2]
    have:([some bx]:List (Option pF))[i-m.boxes.length]? =none:=List.getElem?_eq_none (by simp;omega)
    rw[this];rfl
 have SN:∀(i:Nat) (v:Nat),o.bb[i]? =some (some v)→(o.bb++[some w.heap.size])[i]? =some (some v):=fun i v h=>by
  rw[List.getElem?_append_left (List.getElem?_eq_some_iff.1 h).1];exact h
 have rU:(o.bb++[some w.heap.size])[m.boxes.length]? =some (some w.heap.size):=by rw[←M.jc];simp
 have jX:∀x b,eG ⟨o.rv,o.bb++[some w.heap.size]⟩ ⟨m.rows,m.boxes++[some bx]⟩ x=some b→(x= .box m.boxes.length∧b=w.heap.size)∨(eG o m x=some b):=by
  intro x b h
  cases x with
  |row i=>exact .inr h
  |box i=>
   simp only[eG,sO]at h
   by_cases h1:i<m.boxes.length
   ·simp only[h1,if_true]at h
    refine .inr ?_
    simp only[eG]
    cases e:m.box? i with
    |none=>rw[e]at h;cases h
    |some bx'=>
     rw[e]at h
     simp only at h⊢
     rwa[List.getElem?_append_left (by rw[M.jc];exact h1)]at h
   ·simp only[h1,if_false]at h
    by_cases h2:i=m.boxes.length
    ·subst h2
     simp only[if_true,rU]at h
     exact .inl ⟨rfl,(Option.some.inj h).symm⟩
    ·simp [h2]at h
 have lU:∀b,b<w.heap.size→ay o m b→ay ⟨o.rv,o.bb++[some w.heap.size]⟩ ⟨m.rows,m.boxes++[some bx]⟩ b:=by
  intro b hb h x hx
  rcases jX x b hx with⟨_,h1⟩|h1
  ·omega
  ·exact h _ h1
 have S:iF w (ay o m) (w.alloc (.cells vs.toArray bx.t)) (ay ⟨o.rv,o.bb++[some w.heap.size]⟩ ⟨m.rows,m.boxes++[some bx]⟩):=
  fun b hb h=>⟨lU b hb h,by omega,jd b hb⟩
 refine⟨⟨M.lX,by simp[M.jc],fun i row e=> ?_,fun i bx' e=> ?_,fun x y b h1 k1=> ?_,fun x b h1=> ?_,fun i hi e=> ?_⟩,⟨S,fun _ _ h=>h,SN,fun q row q1 e=>⟨row,e,rfl,fun _=>rfl⟩,Nat.le_refl _,by omega,fun b hb _=>jd b hb,rfl,rfl,rfl⟩⟩
 ·obtain ⟨v,hv,R⟩:=M.rows i row e
  refine⟨v,hv,R.aW S fun hw b hb=>jd b ?_⟩
  exact(M.fH (.row i) b (by rw[fF (m:=m) e hv hw];exact hb)).2
 ·rw [sO]at e
  by_cases h1:i<m.boxes.length
  ·simp only[h1,if_true]at e
   obtain⟨g,hg,B⟩:=M.boxes i bx' e
   exact⟨g,SN _ _ hg,B.aW S (fun _ _ h=>h) (jd g (M.fH _ _ (jf e hg)).2)⟩
  ·simp only[h1,if_false]at e
   by_cases h2:i=m.boxes.length
   ·subst h2
    simp only[if_true]at e
    obtain rfl:=Option.some.inj e
    exact⟨_,rU,vs,heap_alloc_new w _,h.imp fun _ _ h=>aQ.aW S (fun _ _ h=>h) h⟩
   ·simp [h2]at e
 ·rcases jX x b h1 with⟨h2,h3⟩|h2<;>rcases jX y b k1 with⟨k2,k3⟩|k2
  ·rw [h2,k2]
  ·have:=(M.fH _ _ k2).2;omega
  ·have:=(M.fH _ _ h2).2;omega
  ·exact M.qp _ _ b h2 k2
 ·rcases jX x b h1 with⟨h2,h3⟩|h2
  ·subst h3;exact⟨hm,by omega⟩
  ·have:=M.fH _ _ h2;exact⟨this.1,by omega⟩
 ·rw [sO]at e
  by_cases h1:i<m.boxes.length
  ·rw [if_pos h1]at e
   rw[List.getElem?_append_left (by rw[M.jc];exact h1)]
   exact M.free i h1 e
  ·rw [if_neg h1]at e
   have:i=m.boxes.length:=by simp at hi;omega
   rw[if_pos this]at e;cases e
theorem aC.pad (M:aC w may o m)(n:Nat):
  aC w may ⟨o.rv,o.bb++List.replicate n none⟩ ⟨m.rows,m.boxes++List.replicate n none⟩∧dZ may w o m w ⟨o.rv,o.bb++List.replicate n none⟩ ⟨m.rows,m.boxes++List.replicate n none⟩:=by
 have sO:∀i,(⟨m.rows,m.boxes++List.replicate n none⟩:Mem).box? i=m.box? i:=by
  intro i
  rw[box?Jj]
  by_cases h:i<m.boxes.length
  ·rw [if_pos h]
  ·rw [if_neg h]
   have:m.box? i=none:=by simp[Mem.box?,List.getElem?_eq_none (Nat.le_of_not_lt h)]
   rw[this,List.getElem?_replicate]
   split<;>rfl
 have SN:∀(i:Nat) (v:Nat),o.bb[i]? =some (some v)→(o.bb++List.replicate n none)[i]? =some (some v):=fun i v h=>by
  rw[List.getElem?_append_left (List.getElem?_eq_some_iff.1 h).1];exact h
 have heq:∀x,eG ⟨o.rv,o.bb++List.replicate n none⟩ ⟨m.rows,m.boxes++List.replicate n none⟩ x=eG o m x:=by
  intro x
  cases x with
  |row i=>rfl
  |box i=>
   simp only[eG,sO]
   cases e:m.box? i with
   |none=>rfl
   |some bx=>simp only;rw[List.getElem?_append_left (by rw[M.jc];exact box?_lt e)]
 have lU:ay ⟨o.rv,o.bb++List.replicate n none⟩ ⟨m.rows,m.boxes++List.replicate n none⟩=ay o m:=by
  funext b;simp only[ay,heq]
 have S:iF w (ay o m) w (ay ⟨o.rv,o.bb++List.replicate n none⟩ ⟨m.rows,m.boxes++List.replicate n none⟩):=fun b hb h=>⟨by rw[lU];exact h,hb,rfl⟩
 refine⟨⟨M.lX,by simp[M.jc],fun i row e=> ?_,fun i bx' e=> ?_,fun x y b h k=>M.qp x y b (by rwa[heq]at h) (by rwa[heq]at k),fun x b h=>M.fH x b (by rwa[heq]at h),fun i hi e=> ?_⟩,⟨S,fun _ _ h=>h,SN,fun q row q1 e=>⟨row,e,rfl,fun _=>rfl⟩,Nat.le_refl _,Nat.le_refl _,fun _ _ _=>rfl,rfl,rfl,rfl⟩⟩
 ·obtain ⟨v,hv,R⟩:=M.rows i row e
  exact⟨v,hv,R.aW S fun hw b hb=>rfl⟩
 ·rw [sO]at e
  obtain⟨g,hg,B⟩:=M.boxes i bx' e
  exact⟨g,SN _ _ hg,B.aW S (fun _ _ h=>h) rfl⟩
 ·rw [sO]at e
  by_cases h1:i<m.boxes.length
  ·rw [List.getElem?_append_left (by rw[M.jc];exact h1)]
   exact M.free i h1 e
  ·rw [List.getElem?_append_right (by rw[M.jc];omega),List.getElem?_replicate,M.jc,if_pos (by simp at hi;omega)]
theorem aC.afc (M:aC w may o m)(b0:Nat)(bx:pF)(vs:List Value)(hm:may w.heap.size)(h:F2 (aQ w (ay o m) may o) bx.ls vs)(hb:m.box? b0=none)(hl:b0<m.boxes.length)(hn:o.bb[b0]? =some none):
  aC (w.alloc (.cells vs.toArray bx.t)) may ⟨o.rv,o.bb.set b0 (some w.heap.size)⟩ ⟨m.rows,m.boxes.set b0 (some bx)⟩∧
  dZ may w o m (w.alloc (.cells vs.toArray bx.t)) ⟨o.rv,o.bb.set b0 (some w.heap.size)⟩ ⟨m.rows,m.boxes.set b0 (some bx)⟩:=by
 have pY:(w.alloc (.cells vs.toArray bx.t)).heap.size=w.heap.size+1:=by simp
 have jd:∀b,b<w.heap.size→(w.alloc (.cells vs.toArray bx.t)).heap[b]? =w.heap[b]? :=fun b hb=>heap_alloc_old w _ b hb
 have sO:∀i,(⟨m.rows,m.boxes.set b0 (some bx)⟩:Mem).box? i=if i=b0 then some bx else m.box? i:=fun i=>by
  rw[box?_set];simp[hl]
 have uP:∀i,i≠b0→(o.bb.set b0 (some w.heap.size))[i]? =o.bb[i]? :=fun i hi=>by rw[List.getElem?_set_ne (Ne.symm hi)]
 have SN:∀(i:Nat) (v:Nat),o.bb[i]? =some (some v)→(o.bb.set b0 (some w.heap.size))[i]? =some (some v):=fun i v h=>by
  rw[uP i (fun e=>by subst e;rw[hn]at h;cases h)];exact h
 have rU:(o.bb.set b0 (some w.heap.size))[b0]? =some (some w.heap.size):=by
  rw[List.getElem?_set_self];rw[M.jc];exact hl
 have jX:∀x b,eG ⟨o.rv,o.bb.set b0 (some w.heap.size)⟩ ⟨m.rows,m.boxes.set b0 (some bx)⟩ x=some b→(x= .box b0∧b=w.heap.size)∨(eG o m x=some b):=by
  intro x b h
  cases x with
  |row i=>exact .inr h
  |box i=>
   simp only[eG,sO]at h
   by_cases h1:i=b0
   ·subst h1
    simp only[if_true,rU]at h
    exact .inl ⟨rfl,(Option.some.inj h).symm⟩
   ·simp only[h1,if_false]at h
    refine .inr ?_
    simp only[eG]
    cases e:m.box? i with
    |none=>rw[e]at h;cases h
    |some bx'=>rw[e]at h;simp only[uP i h1]at h⊢;exact h
 have lU:∀b,b<w.heap.size→ay o m b→ay ⟨o.rv,o.bb.set b0 (some w.heap.size)⟩ ⟨m.rows,m.boxes.set b0 (some bx)⟩ b:=by
  intro b hb h x hx
  rcases jX x b hx with⟨_,h1⟩|h1
  ·omega
  ·exact h _ h1
 have S:iF w (ay o m) (w.alloc (.cells vs.toArray bx.t)) (ay ⟨o.rv,o.bb.set b0 (some w.heap.size)⟩ ⟨m.rows,m.boxes.set b0 (some bx)⟩):=
  fun b hb h=>⟨lU b hb h,by omega,jd b hb⟩
 refine⟨⟨M.lX,by simp[M.jc],fun i row e=> ?_,fun i bx' e=> ?_,fun x y b h1 k1=> ?_,fun x b h1=> ?_,fun i hi e=> ?_⟩,⟨S,fun _ _ h=>h,SN,fun q row q1 e=>⟨row,e,rfl,fun _=>rfl⟩,Nat.le_refl _,by omega,fun b hb _=>jd b hb,rfl,rfl,rfl⟩⟩
 ·obtain ⟨v,hv,R⟩:=M.rows i row e
  refine⟨v,hv,R.aW S fun hw b hb=>jd b ?_⟩
  exact(M.fH (.row i) b (by rw[fF (m:=m) e hv hw];exact hb)).2
 ·rw [sO]at e
  by_cases h1:i=b0
  ·subst h1
   rw[if_pos rfl]at e
   obtain rfl:=Option.some.inj e
   exact⟨_,rU,vs,heap_alloc_new w _,h.imp fun _ _ h=>aQ.aW S (fun _ _ h=>h) h⟩
  ·rw [if_neg h1]at e
   obtain⟨g,hg,B⟩:=M.boxes i bx' e
   exact⟨g,SN _ _ hg,B.aW S (fun _ _ h=>h) (jd g (M.fH _ _ (jf e hg)).2)⟩
 ·rcases jX x b h1 with⟨h2,h3⟩|h2<;>rcases jX y b k1 with⟨k2,k3⟩|k2
  ·rw [h2,k2]
  ·have:=(M.fH _ _ k2).2;omega
  ·have:=(M.fH _ _ h2).2;omega
  ·exact M.qp _ _ b h2 k2
 ·rcases jX x b h1 with⟨h2,h3⟩|h2
  ·subst h3;exact⟨hm,by omega⟩
  ·have:=M.fH _ _ h2;exact⟨this.1,by omega⟩
 ·rw [sO]at e
  by_cases h1:i=b0
  ·rw [if_pos h1]at e;cases e
  ·rw [if_neg h1]at e
   rw[uP i h1]
   exact M.free i (by simpa using hi) e
theorem aC.KL (M:aC w may o m)(b:Nat)(bx bx':pF)(g:Nat)(hb:m.box? b=some bx)(hg:o.bb[b]? =some (some g))(ht':bx'.t=bx.t)
  (pY:w'.heap.size=w.heap.size) (KJ:w'.os=w.os) (ht:w'.tape=w.tape) (wR:w'.output=w.output)
  (jd:∀b,b<w.heap.size→b≠g→w'.heap[b]? =w.heap[b]?)
  (vs:List Value) (hcell:w'.heap[g]? =some (.cells vs.toArray bx'.t (0,0))) (h:F2 (aQ w (ay o m) may o) bx'.ls vs):
  aC w' may o ⟨m.rows,m.boxes.set b (some bx')⟩∧dZ may w o m w' o ⟨m.rows,m.boxes.set b (some bx')⟩:=by
 have dX:=box?_lt hb
 have sO:∀i,(⟨m.rows,m.boxes.set b (some bx')⟩:Mem).box? i=if i=b then some bx' else m.box? i:=fun i=>by
  rw[box?_set];simp[dX]
 have VO:eG o m (.box b)=some g:=jf hb hg
 have heq:∀x,eG o ⟨m.rows,m.boxes.set b (some bx')⟩ x=eG o m x:=by
  intro x
  cases x with
  |row i=>rfl
  |box i=>
   by_cases h:i=b
   ·subst h;rw[VO];exact jf (by rw[sO,if_pos rfl]) hg
   ·simp only[eG,sO,if_neg h]
 have lU:∀c,ay o m c→ay o ⟨m.rows,m.boxes.set b (some bx')⟩ c:=fun c h x=>by rw[heq];exact h x
 have S:iF w (ay o m) w' (ay o ⟨m.rows,m.boxes.set b (some bx')⟩):=fun c hc h=>⟨lU c h,by omega,jd c hc (fun e=>h (.box b) (by rw[VO,e]))⟩
 refine⟨⟨M.lX,by simpa using M.jc,fun i Bj e=> ?_,fun i bx1 e=> ?_,fun x y c h k=>M.qp x y c (by rwa[heq]at h) (by rwa[heq]at k),fun x c h=>by rw[heq]at h;rw[pY];exact M.fH x c h,fun i hi e=> ?_⟩,
  ⟨S,fun _ _ h=>h,fun _ _ h=>h,fun q Bj q1 e=>⟨Bj,e,rfl,fun _=>rfl⟩,Nat.le_refl _,by omega,fun c hc hm=>jd c hc fun e=>hm (by subst e;exact(M.fH _ _ VO).1),KJ,ht,wR⟩⟩
 ·obtain ⟨v,hv,R⟩:=M.rows i Bj e
  refine⟨v,hv,R.aW S fun hw c hc=> ?_⟩
  have wQ:eG o m (.row i)=some c:=by rw[fF (m:=m) e hv hw];exact hc
  exact jd c (M.fH _ _ wQ).2 fun e1=>(by subst e1;have:=M.qp _ _ _ wQ VO;simp at this)
 ·rw [sO]at e
  by_cases h1:i=b
  ·subst h1
   rw[if_pos rfl]at e
   obtain rfl:=Option.some.inj e
   exact⟨g,hg,vs,hcell,h.imp fun _ _ h=>aQ.aW S (fun _ _ h=>h) h⟩
  ·rw [if_neg h1]at e
   obtain⟨g1,hg1,B⟩:=M.boxes i bx1 e
   have wQ:eG o m (.box i)=some g1:=jf e hg1
   exact⟨g1,hg1,B.aW S (fun _ _ h=>h) (jd g1 (M.fH _ _ wQ).2 fun e1=>h1 (by subst e1;have:=M.qp _ _ _ wQ VO;simpa using this))⟩
 ·rw [sO]at e
  by_cases h1:i=b
  ·rw [if_pos h1]at e;cases e
  ·rw [if_neg h1]at e
   exact M.free i (by simpa using hi) e
end
def zeroCells:K→List Value
 | .prod a b=>zeroCells a++zeroCells b
 | .unit=>[]
 | .int q=>[.int q 0]
 | .bool=>[.bool false]
 | .str=>[.string ByteArray.empty]
 | .sl _ _=>[.slice none 0 0]
 | .raw=>[.nilFunc]
 | .hd=>[.slice none 0 0]
 | .Ce g=>[fnV g]
def aa6:TypeDesc→Bool
 | .struct _=>true
 | .array _ _=>true
 |_=>false
structure TOk (P:Program) (T:dH) (t:TypeId) (ti:TI):Prop where
 info:∃i,P.info? t=some i∧i.size=ti.k.n∧i.bytes=ti.bytes∧∃z,i.zero=some z∧z.cells.toList=zeroCells ti.k
 agg:∃d,P.underlying t=some d∧aa6 d=ti.agg
 desc:match ti.d with
  | .int k=>P.underlying t=some (.int k)∧ti.k= .int k
  | .bool=>P.underlying t=some .bool∧ti.k= .bool
  | .str=>P.underlying t=some .string∧ti.k= .str
  | .sl e=>P.underlying t=some (.slice e)∧∃ei,T e=some ei∧ti.k= .sl e ei.k∧0<ei.k.n
  | .struct fs=>∃F:Array Field,P.underlying t=some (.struct F)∧F.size=fs.length∧∀(i o:Nat) (ft:TypeId),fs[i]? =some (o,ft)→∃f:Field,F[i]? =some f∧f.offset=o∧f.type=ft∧∃fi,T ft=some fi∧0<fi.k.n
  | .ptr=>∃e,P.underlying t=some (.pointer e)
  | .other=>True
def aZ (P:Program)(T:dH):Prop:=∀t ti,T t=some ti→TOk P T t ti
section
variable {P:Program} {T:dH} {w:World}
theorem TOk.size {t:TypeId}{ti:TI}(h:TOk P T t ti):(sizeOf t).run P w= .ok ti.k.n w:=by
 obtain⟨i,h1,h2,_⟩:=h.info
 simp[sizeOf,typeInfo,h1,h2]
theorem TOk.isAgg {t:TypeId}{ti:TI}(h:TOk P T t ti):(isAgg t).run P w= .ok ti.agg w:=by
 obtain⟨d,h1,h2⟩:=h.agg
 simp only[Go.isAgg,Sem.run_bind,run_underlying h1,Result.andThen_ok]
 rw[←h2]
 cases d<;>rfl
end
section
variable {w:World} {ok may:Nat→Prop} {ow:Ow} {s:S} {a:Act}
def dw (w:World)(ok may:Nat→Prop)(ow:Ow)(s:S)(a:Act):Prop:=∀t,aS w ok may ow s.m (s.get t) (a.tmps.getD t undef)
theorem SQ (v:Value):aS w ok may ow s.m (PV v) v:=by
 unfold PV
 split
 ·exact rfl
 ·exact rfl
 ·exact rfl
 ·exact rfl
 ·exact rfl
 ·trivial
theorem Oq {m:Mem}{sv:SV}{v:Value}(h:aS w ok may ow m sv v):aS w ok may ow m sv.plain v:=by
 cases sv with
 |kX b o g=>exact⟨g,h.1,h.2⟩
 |_=>exact h
theorem VP (v:SV):v.plain.bool? =v.bool? :=by cases v<;>rfl
theorem SS (s:S)(d:Nat):(s.gJ (.tmp d)).bool? =(s.get d).bool? :=VP _
theorem dG (F:dw w ok may ow s a)(x:Operand):aS w ok may ow s.m (s.gJ x) (a.eval x):=by
 cases x with
 |tmp t=>exact Oq (F t)
 |const v=>exact SQ v
 |global g=>trivial
 |func f=>
  simp only[S.gJ]
  cases h:Nat.beq f 0 with
  |true=>trivial
  |false=>
   show[_]=[fnV f]
   unfold fnV
   rw[h]
   rfl
variable {m:Mem} {sv:SV} {v:Value}
theorem leaf?nK {l:aT}(h:aS w ok may ow m sv v)(e:sv.leaf? =some l):aQ w ok may ow l v:=by
 unfold SV.leaf? at e
 split at e
 ·obtain rfl:=Option.some.inj e;exact h
 ·cases e
theorem cmp?nK {c:lM}(h:aS w ok may ow m sv v)(e:sv.cmp? =some c):bG w ok may ow c v:=by
 unfold SV.cmp? at e
 split at e
 ·obtain rfl:=Option.some.inj e;exact h
 ·cases e
theorem bool?nK {b:Bool}(h:aS w ok may ow m sv v)(e:sv.bool? =some b):v= .bool b:=by
 unfold SV.bool? at e
 split at e
 ·obtain rfl:=Option.some.inj e
  have h:[v]=[.bool _]:=h
  simpa using h
 ·cases e
theorem int?nK {n:Int}(h:aS w ok may ow m sv v)(e:sv.int? =some n):∃k,v= .int k n:=by
 unfold SV.int? at e
 split at e
 ·rename_i fr k a
  obtain rfl:=Option.some.inj e
  have h:[v]=[.int k a]:=h
  exact⟨k,by simpa using h⟩
 ·cases e
theorem zF {fr:Bool}{k:IntKind}{a:Int}(h:aQ w ok may ow (.val fr (.int k) a) v):v= .int k a:=by
 have h:[v]=[.int k a]:=h
 simpa using h
theorem KN {fr:Bool}{a:Bool}(h:aQ w ok may ow (.val fr .bool a) v):v= .bool a:=by
 have h:[v]=[.bool a]:=h
 simpa using h
theorem EM {fr:Bool}{a:ByteArray}(h:aQ w ok may ow (.val fr .str a) v):v= .string a:=by
 have h:[v]=[.string a]:=h
 simpa using h
end
theorem mP {R:Type}{b:Bool}{x y:Option R}{r:R}(h:(bif b then x else y)=some r):(b=true∧x=some r)∨(b=false∧y=some r):=by
 cases b<;>simp_all
theorem aG {R:Type}{b:Bool}{x:Option R}{r:R}(h:(bif b then x else none)=some r):b=true∧x=some r:=by
 cases b<;>simp_all
theorem zG {R:Type}{b:Bool}{x:Option R}{r:R}(h:(bif b then none else x)=some r):b=false∧x=some r:=by
 cases b<;>simp_all
section
variable {R:Type} {P:Program} {T:dH} {w:World} {ok may:Nat→Prop} {ow:Ow} {r:R}
def qg (P:Program)(w:World)(ok may:Nat→Prop)(ow:Ow)(x:Sem Value)(c:aT→Option R)(r:R):Prop:=
 ∃l z,c l=some r∧aQ w ok may ow l z∧x.run P w= .ok z w
theorem qg.int {x:Sem Value}{c:aT→Option R}{k:IntKind}{n:Int}(h:c (.val true (.int k) n)=some r)(hx:x.run P w= .ok (.int k n) w):qg P w ok may ow x c r:=
 ⟨_,_,h,rfl,hx⟩
theorem qg.bool {x:Sem Value}{c:aT→Option R}{b:Bool}(h:c (.val true .bool b)=some r)(hx:x.run P w= .ok (.bool b) w):qg P w ok may ow x c r:=
 ⟨_,_,h,rfl,hx⟩
theorem qg.str {x:Sem Value}{c:aT→Option R}{b:ByteArray}(h:c (.val true .str b)=some r)(hx:x.run P w= .ok (.string b) w):qg P w ok may ow x c r:=
 ⟨_,_,h,rfl,hx⟩
theorem VQ {op:BinOp}{k k':IntKind}{a b:Int}{c:aT→Option R}{xt:TypeId}(h:Ci op k a k' b c=some r):
  qg P w ok may ow (binOp op xt (.int k a) (.int k' b)) c r:=by
 cases op<;>simp only[Ci]at h
 case shl=>
  obtain⟨h1,h⟩:=zG h
  exact qg.int h (by simp only[binOp,Op.shift];rw[if_neg (by simpa using h1)];rfl)
 case shr=>
  obtain⟨h1,h⟩:=zG h
  exact qg.int h (by simp only[binOp,Op.shift];rw[if_neg (by simpa using h1)];rfl)
 all_goals
  split at h
  case isFalse=>cases h
  rename_i hk
  subst hk
  simp only[KA]at h
 case quo=>
  obtain⟨h1,h⟩:=zG h
  exact qg.int h (by simp only[binOp,ne_eq,not_true_eq_false,if_false,Op.intDiv];rw[if_neg (by simpa using h1)];rfl)
 case rem=>
  obtain⟨h1,h⟩:=zG h
  exact qg.int h (by simp only[binOp,ne_eq,not_true_eq_false,if_false,Op.intDiv];rw[if_neg (by simpa using h1)];rfl)
 case add=>exact qg.int h (by simp[binOp,Op.intArith])
 case sub=>exact qg.int h (by simp[binOp,Op.intArith])
 case mul=>exact qg.int h (by simp[binOp,Op.intArith])
 case and=>exact qg.int h (by simp[binOp,Op.intBits,eP])
 case or=>exact qg.int h (by simp[binOp,Op.intBits,eP])
 case xor=>exact qg.int h (by simp[binOp,Op.intBits,eP])
 case andNot=>exact qg.int h (by simp[binOp,Op.intBits,eP])
 all_goals exact qg.bool h (by simp[binOp,Op.intCmp])
theorem Y8 {op:BinOp}{a b:ByteArray}{c:aT→Option R}{xt:TypeId}(h:GU op a b c=some r):
  qg P w ok may ow (binOp op xt (.string a) (.string b)) c r:=by
 cases op<;>simp only[GU]at h
 case add=>
  obtain⟨h1,h⟩:=aG h
  exact qg.str h (by simp only[binOp];exact run_string_add_sum w a b (by simpa using h1))
 case eql=>exact qg.bool h (by simp[binOp,Op.stringOp])
 case neq=>exact qg.bool h (by simp[binOp,Op.stringOp])
 all_goals cases h
theorem VR {op:BinOp}{a b:Bool}{c:aT→Option R}{xt:TypeId}(hu:P.underlying xt=some .bool)(h:Cj op a b c=some r):
  qg P w ok may ow (binOp op xt (.bool a) (.bool b)) c r:=by
 have he:(Op.equal xt (.bool a) (.bool b)).run P w= .ok (a==b) w:=by
  have:∀d,(Op.equalIn (d+1) xt (.bool a) (.bool b)).run P w= .ok (a==b) w:=fun d=>by
   rw[Op.equalIn,Sem.run_bind,run_underlying hu,Result.andThen_ok];rfl
  exact this 9999
 cases op<;>simp only[Cj]at h
 case eql=>exact qg.bool h (by simp[binOp,he])
 case neq=>exact qg.bool h (by simp[binOp,he])
 all_goals cases h
theorem afe (TK:aZ P T){op:BinOp}{x y:aT}{u v:Value}{c:aT→Option R}{xt:TypeId}(hx:aQ w ok may ow x u)(hy:aQ w ok may ow y v)(h:Y4 T xt op x y c=some r):
  qg P w ok may ow (binOp op xt u v) c r∧(∀X Y,(eqGuard op xt X Y u v).run P w= .ok () w):=by
 unfold Y4 at h
 split at h
 ·obtain rfl:=zF hx
  obtain rfl:=zF hy
  exact⟨VQ h,fun X Y=>by unfold eqGuard;split<;>simp_all⟩
 ·obtain rfl:=KN hx
  obtain rfl:=KN hy
  split at h
  ·rename_i e
   exact⟨VR (TK _ _ e).desc.1 h,fun X Y=>by unfold eqGuard;split<;>simp_all⟩
  ·cases h
 ·obtain rfl:=EM hx
  obtain rfl:=EM hy
  exact⟨Y8 h,fun X Y=>by unfold eqGuard;split<;>simp_all⟩
 ·cases h
theorem aiL {op:UnOp}{x:aT}{u:Value}{c:aT→Option R}(hx:aQ w ok may ow x u)(h:unE op x c=some r):qg P w ok may ow (Op.unary op u) c r:=by
 unfold unE at h
 split at h
 ·obtain rfl:=zF hx
  exact qg.int h (by simp[Op.unary,Op.intArith,alf])
 ·obtain rfl:=zF hx
  exact qg.int h (by simp[Op.unary,Op.intBits,eP])
 ·obtain rfl:=KN hx
  exact qg.bool h (by simp[Op.unary])
 ·cases h
end
section
variable {w:World} {ok may:Nat→Prop} {ow:Ow} {m:Mem}
theorem jE:∀{fr:Bool} {k:K} {x:k.T} {es:List Value},Rd w (o7 ok may fr) k x es→F2 (aQ w ok may ow) (bf fr k x) es
 |fr,.int q,x,es,h=>by simp only[Rd]at h;subst h;exact⟨rfl,trivial⟩
 |fr,.bool,x,es,h=>by simp only[Rd]at h;subst h;exact⟨rfl,trivial⟩
 |fr,.str,x,es,h=>by simp only[Rd]at h;subst h;exact⟨rfl,trivial⟩
 |fr,.unit,x,es,h=>by simp only[Rd]at h;subst h;trivial
 |fr,.raw,x,es,h=>by obtain⟨rfl,h⟩:=h;exact⟨⟨rfl,h⟩,trivial⟩
 |fr,.hd,x,es,h=>by obtain⟨rfl,h⟩:=h;exact⟨⟨rfl,h⟩,trivial⟩
 |fr,.Ce g,x,es,h=>by simp only[Rd]at h;subst h;exact⟨rfl,trivial⟩
 |fr,.sl e k,x,es,h=>by
  obtain⟨A,c,rfl,hx⟩:=h
  exact⟨⟨A,c,rfl,hx⟩,trivial⟩
 |fr,.prod a b,x,es,h=>by
  obtain⟨c1,c2,rfl,h1,h2⟩:=h
  exact(jE h1).append (jE h2)
theorem GY:∀(fr:Bool) (k:K) (x:k.T),(bf fr k x).length=k.n
 |_,.int _,_|_,.bool,_|_,.str,_|_,.unit,_|_,.sl _ _,_|_,.raw,_|_,.hd,_|_,.Ce _,_=>rfl
 |fr,.prod a b,x=>by simp[bf,K.n,GY fr a,GY fr b]
theorem vU:∀(fr:Bool) (k:K) (x:k.T) (r:Nat),aT.own r∉bf fr k x
 |_,.int _,_,_|_,.bool,_,_|_,.str,_,_|_,.unit,_,_|_,.sl _ _,_,_|_,.raw,_,_|_,.hd,_,_|_,.Ce _,_,_=>by simp[bf]
 |fr,.prod a b,x,r=>by simp[bf,vU fr a,vU fr b]
theorem KO {m:Mem}:∀(k:K) (x:k.T) (l:aT),l∈bf true k x→fK m l=true
 | .int _,_,l,h| .bool,_,l,h| .str,_,l,h| .unit,_,l,h| .sl _ _,_,l,h| .raw,_,l,h| .hd,_,l,h| .Ce _,_,l,h=>by simp[bf]at h;try (subst h;rfl)
 | .prod a b,x,l,h=>by
  simp only[bf,List.mem_append]at h
  rcases h with h|h
  ·exact KO a _ l h
  ·exact KO b _ l h
def yw (m:Mem)(l:aT):Prop:=∀r,l= .own r→∀row,m.row? r=some row→row.rw=false
theorem dP {a b:K}{x:a.T}{y:b.T}(h:K.cast a b x=some y):∃e:a=b,e▸x=y:=by
 unfold K.cast at h
 split at h
 ·rename_i e;exact⟨e,Option.some.inj h⟩
 ·cases h
theorem Rd.up {f g:Bool}{k:K}{x:k.T}{es:List Value}(h:Rd w (o7 ok may f) k x es)(e:g=true→f=true):Rd w (o7 ok may g) k x es:=
 Rd.mono (fun b h=>⟨h.1,fun z=>h.2 (e z)⟩) h
theorem kY (M:aC w may ow m){l:aT}{k:K}{x:k.T}{v:Value}(hf:yw m l)(h:aQ w (ay ow m) may ow l v)(e:bP m k l=some x):
  Rd w (o7 (ay ow m) may (fK m l)) k x [v]:=by
 cases l with
 |val fr k' y=>
  simp only[bP]at e
  obtain⟨rfl,rfl⟩:=dP e
  simp only[fK]
  cases fr with
  |true=>exact h
  |false=>
   cases hk:k'.flat with
   |false=>exact h
   |true=>exact Rd.flat hk h
 |nil=>
  obtain rfl:v= .slice none 0 0:=h
  cases k<;>simp only[bP]at e<;>try (cases e;done)
  case hd=>obtain rfl:=Option.some.inj e;exact⟨rfl,_,_,_,rfl⟩
  obtain rfl:=Option.some.inj e
  exact⟨none,0,rfl,Nat.le_refl _,fun i x hi=>by simp at hi⟩
 |own r=>
  simp only[bP]at e
  cases hr:m.row? r with
  |none=>simp[hr]at e
  |some row=>
   simp only[hr]at e
   obtain⟨e1,e2⟩:=dP e
   subst e1
   simp only at e2
   subst e2
   obtain⟨u,hu,R⟩:=M.sl r row hr h.1 h.2
   obtain rfl:v=u:=Option.some.inj (h.1.symm.trans hu)
   have:=R.2
   rw[hf r rfl row hr]at this
   simpa only[Bool.false_eq_true,if_false,fK,hr]using this
theorem yS (M:aC w may ow m):∀{k:K} {ls:List aT} {x:k.T} {es:List Value},(∀l∈ls,yw m l)→F2 (aQ w (ay ow m) may ow) ls es→bM m k ls=some x→
  Rd w (o7 (ay ow m) may (ls.all (fK m))) k x es
 | .prod a b,ls,x,es,hf,h,e=>by
  simp only[bM]at e
  cases h1:bM m a (ls.take a.n)with
  |none=>simp[h1]at e
  |some y=>
   cases h2:bM m b (ls.drop a.n)with
   |none=>simp[h1,h2]at e
   |some z=>
    simp only[h1,h2]at e
    obtain rfl:=Option.some.inj e
    have r1:=yS M (fun l hl=>hf l (List.mem_of_mem_take hl)) (h.take a.n) h1
    have r2:=yS M (fun l hl=>hf l (List.mem_of_mem_drop hl)) (h.drop a.n) h2
    refine⟨es.take a.n,es.drop a.n,by simp,r1.up fun g=> ?_,r2.up fun g=> ?_⟩
    ·exact List.all_eq_true.2 fun l hl=>List.all_eq_true.1 g l (List.mem_of_mem_take hl)
    ·exact List.all_eq_true.2 fun l hl=>List.all_eq_true.1 g l (List.mem_of_mem_drop hl)
 | .unit,ls,x,es,hf,h,e=>by
  cases ls with
  |nil=>exact h.jk
  |cons=>simp[bM]at e
 | .int q,ls,x,es,hf,h,e=>by
  match ls,es,h with
  |[],_,_=>simp[bM]at e
  |[l],[v],h=>simpa using kY M (hf l (by simp)) h.1 e
  |_::_::_,_,_=>simp[bM]at e
 | .bool,ls,x,es,hf,h,e=>by
  match ls,es,h with
  |[],_,_=>simp[bM]at e
  |[l],[v],h=>simpa using kY M (hf l (by simp)) h.1 e
  |_::_::_,_,_=>simp[bM]at e
 | .str,ls,x,es,hf,h,e=>by
  match ls,es,h with
  |[],_,_=>simp[bM]at e
  |[l],[v],h=>simpa using kY M (hf l (by simp)) h.1 e
  |_::_::_,_,_=>simp[bM]at e
 | .raw,ls,x,es,hf,h,e=>by
  match ls,es,h with
  |[],_,_=>simp[bM]at e
  |[l],[v],h=>simpa using kY M (hf l (by simp)) h.1 e
  |_::_::_,_,_=>simp[bM]at e
 | .hd,ls,x,es,hf,h,e=>by
  match ls,es,h with
  |[],_,_=>simp[bM]at e
  |[l],[v],h=>simpa using kY M (hf l (by simp)) h.1 e
  |_::_::_,_,_=>simp[bM]at e
 | .Ce _,ls,x,es,hf,h,e=>by
  match ls,es,h with
  |[],_,_=>simp[bM]at e
  |[l],[v],h=>simpa using kY M (hf l (by simp)) h.1 e
  |_::_::_,_,_=>simp[bM]at e
 | .sl _ _,ls,x,es,hf,h,e=>by
  match ls,es,h with
  |[],_,_=>simp[bM]at e
  |[l],[v],h=>simpa using kY M (hf l (by simp)) h.1 e
  |_::_::_,_,_=>simp[bM]at e
theorem EN (M:aC w may ow m){ok2 Jk:Nat→Prop}{l:aT}{k:K}{x:k.T}{v:Value}(h:aQ w ok2 Jk ow l v)(e:bP m k l=some x):
  Rd w (fun _=>True) k x [v]:=by
 cases l with
 |val fr k' y=>
  simp only[bP]at e
  obtain⟨rfl,rfl⟩:=dP e
  exact Rd.mono (fun _ _=>trivial) (h:Rd _ _ _ _ _)
 |nil=>
  obtain rfl:v= .slice none 0 0:=h
  cases k<;>simp only[bP]at e<;>try (cases e;done)
  case hd=>obtain rfl:=Option.some.inj e;exact⟨rfl,_,_,_,rfl⟩
  obtain rfl:=Option.some.inj e
  exact⟨none,0,rfl,Nat.le_refl _,fun i x hi=>by simp at hi⟩
 |own r=>
  simp only[bP]at e
  cases hr:m.row? r with
  |none=>simp[hr]at e
  |some row=>
   simp only[hr]at e
   obtain⟨e1,e2⟩:=dP e
   subst e1
   simp only at e2
   subst e2
   obtain⟨u,hu,R⟩:=M.sl r row hr h.1 h.2
   obtain rfl:v=u:=Option.some.inj (h.1.symm.trans hu)
   exact Rd.mono (fun _ _=>trivial) (R.read (ok':=fun _=>True) (fun _ _=>trivial) fun Dl b hb=>⟨trivial,(M.fH (.row r) b (by rw[fF hr hu Dl];exact hb)).1⟩)
theorem CB {ok2 Jk Q:Nat→Prop}:∀{k:K} {ls:List aT} {x:k.T} {es:List Value},(∀l∈ls,∀(k:K) (x:k.T) (v:Value),aQ w ok2 Jk ow l v→bP m k l=some x→Rd w Q k x [v])→F2 (aQ w ok2 Jk ow) ls es→bM m k ls=some x→Rd w Q k x es
 | .prod a b,ls,x,es,H,h,e=>by
  simp only[bM]at e
  cases h1:bM m a (ls.take a.n)with
  |none=>simp[h1]at e
  |some y=>
   cases h2:bM m b (ls.drop a.n)with
   |none=>simp[h1,h2]at e
   |some z=>
    simp only[h1,h2]at e
    obtain rfl:=Option.some.inj e
    exact⟨es.take a.n,es.drop a.n,by simp,CB (fun l hl=>H l (List.mem_of_mem_take hl)) (h.take a.n) h1,CB (fun l hl=>H l (List.mem_of_mem_drop hl)) (h.drop a.n) h2⟩
 | .unit,ls,x,es,H,h,e=>by
  cases ls with
  |nil=>exact h.jk
  |cons=>simp[bM]at e
 | .int q,ls,x,es,H,h,e=>by
  match ls,es,H,h with
  |[],_,_,_=>simp[bM]at e
  |[l],[v],H,h=>exact H l List.mem_cons_self _ _ _ h.1 e
  |_::_::_,_,_,_=>simp[bM]at e
 | .bool,ls,x,es,H,h,e=>by
  match ls,es,H,h with
  |[],_,_,_=>simp[bM]at e
  |[l],[v],H,h=>exact H l List.mem_cons_self _ _ _ h.1 e
  |_::_::_,_,_,_=>simp[bM]at e
 | .str,ls,x,es,H,h,e=>by
  match ls,es,H,h with
  |[],_,_,_=>simp[bM]at e
  |[l],[v],H,h=>exact H l List.mem_cons_self _ _ _ h.1 e
  |_::_::_,_,_,_=>simp[bM]at e
 | .raw,ls,x,es,H,h,e=>by
  match ls,es,H,h with
  |[],_,_,_=>simp[bM]at e
  |[l],[v],H,h=>exact H l List.mem_cons_self _ _ _ h.1 e
  |_::_::_,_,_,_=>simp[bM]at e
 | .hd,ls,x,es,H,h,e=>by
  match ls,es,H,h with
  |[],_,_,_=>simp[bM]at e
  |[l],[v],H,h=>exact H l List.mem_cons_self _ _ _ h.1 e
  |_::_::_,_,_,_=>simp[bM]at e
 | .Ce _,ls,x,es,H,h,e=>by
  match ls,es,H,h with
  |[],_,_,_=>simp[bM]at e
  |[l],[v],H,h=>exact H l List.mem_cons_self _ _ _ h.1 e
  |_::_::_,_,_,_=>simp[bM]at e
 | .sl _ _,ls,x,es,H,h,e=>by
  match ls,es,H,h with
  |[],_,_,_=>simp[bM]at e
  |[l],[v],H,h=>exact H l List.mem_cons_self _ _ _ h.1 e
  |_::_::_,_,_,_=>simp[bM]at e
theorem GZ (M:aC w may ow m){ok2 Jk:Nat→Prop}{k:K}{ls:List aT}{x:k.T}{es:List Value}(h:F2 (aQ w ok2 Jk ow) ls es)(e:bM m k ls=some x):Rd w (fun _=>True) k x es:=
 CB (fun l _ k x v h e=>EN M h e) h e
theorem P_ (M:aC w may ow m){r:Nat}{l:aT}{k:K}{x:k.T}{v:Value}(hr:∀q,l= .own q→q≠r)(h:aQ w (ay ow m) may ow l v)(e:bP m k l=some x):
  Rd w (fun b=>eG ow m (.row r)≠some b) k x [v]:=by
 cases l with
 |val fr k' y=>
  simp only[bP]at e
  obtain⟨rfl,rfl⟩:=dP e
  exact Rd.mono (fun _ h=>h.1 (.row r)) (h:Rd _ _ _ _ _)
 |nil=>
  obtain rfl:v= .slice none 0 0:=h
  cases k<;>simp only[bP]at e<;>try (cases e;done)
  case hd=>obtain rfl:=Option.some.inj e;exact⟨rfl,_,_,_,rfl⟩
  obtain rfl:=Option.some.inj e
  exact⟨none,0,rfl,Nat.le_refl _,fun i x hi=>by simp at hi⟩
 |own q=>
  simp only[bP]at e
  cases hq:m.row? q with
  |none=>simp[hq]at e
  |some row=>
   simp only[hq]at e
   obtain⟨e1,e2⟩:=dP e
   subst e1
   simp only at e2
   subst e2
   obtain⟨u,hu,R⟩:=M.sl q row hq h.1 h.2
   obtain rfl:v=u:=Option.some.inj (h.1.symm.trans hu)
   refine Rd.mono (fun _ h=>h.1) (R.read (ok':=fun b=>eG ow m (.row r)≠some b) (fun _ h=>h (.row r)) fun Dl b hb=>⟨fun Qa=> ?_,(M.fH (.row q) b (by rw[fF hq hu Dl];exact hb)).1⟩)
   have:=M.qp (.row q) (.row r) b (by rw[fF hq hu Dl];exact hb) Qa
   injection this with this
   exact hr q rfl this
theorem Y9 {m m':Mem}{l:aT}(H:∀r row',m'.row? r=some row'→∃row,m.row? r=some row∧(row'.rw=true→row.rw=true))(h:yw m l):yw m' l:=by
 intro r e row' hr
 obtain⟨row,h1,h2⟩:=H r row' hr
 have:=h r e row h1
 cases hw:row'.rw with
 |false=>rfl
 |true=>rw[h2 hw]at this;cases this
theorem SX (m:Mem)(l:aT):∀r row',(m.freeze l).row? r=some row'→∃row,m.row? r=some row∧(row'.rw=true→row.rw=true):=by
 intro r row' h
 cases l with
 |val=>exact⟨row',h,id⟩
 |nil=>exact⟨row',h,id⟩
 |own q=>
  rw[row?vT]at h
  by_cases e:r=q
  ·subst e
   rw[if_pos rfl]at h
   obtain⟨row,e1,rfl⟩:=Option.map_eq_some_iff.1 h
   exact⟨row,e1,fun h=>by cases h⟩
  ·rw [if_neg e]at h;exact⟨row',h,id⟩
theorem KP (ls:List aT):∀(m:Mem) (r:Nat) (row':Row),(m.aI ls).row? r=some row'→∃row,m.row? r=some row∧(row'.rw=true→row.rw=true):=by
 induction ls with
 |nil=>exact fun m r row' h=>⟨row',h,id⟩
 |cons l ls ih=>
  intro m r row' h
  obtain⟨Bj,h1,h2⟩:=ih (m.freeze l) r row' h
  obtain⟨row,h3,h4⟩:=SX m l r Bj h1
  exact⟨row,h3,h4∘h2⟩
theorem uQ (m:Mem)(l:aT):yw (m.freeze l) l:=by
 intro r e row h
 subst e
 rw[row?vT,if_pos rfl]at h
 obtain⟨row,_,rfl⟩:=Option.map_eq_some_iff.1 h
 rfl
theorem lY (ls:List aT):∀(m:Mem),∀l∈ls,yw (m.aI ls) l:=by
 induction ls with
 |nil=>intro m l hl;cases hl
 |cons x ls ih=>
  intro m l hl
  rcases List.mem_cons.1 hl with rfl|hl
  ·exact Y9 (KP ls _) (uQ m l)
  ·exact ih (m.freeze x) l hl
theorem F2.mF {α β:Type}{R:α→β→Prop}{x new:List α}{y nv:List β}{o:Nat}(h:F2 R x y)(hn:F2 R new nv):
  F2 R (Fx.mF x o new) (y.take o++nv++y.drop (o+nv.length)):=by
 unfold Fx.mF
 rw[hn.len]
 exact((h.take o).append hn).append (h.drop _)
theorem Addr.fO (g n:Nat):(⟨g,0,none⟩:Addr).add n=⟨g,n,none⟩:=by unfold Addr.add;split<;>simp_all
end
theorem getD_some {α:Type}(xs:List α)(d:α){i:Nat}(h:i<xs.length):xs[i]? =some (xs.getD i d):=by
 simp[List.getD,List.getElem?_eq_getElem h]
def g_ {R:Type}(P:Program)(may:Nat→Prop)(w:World)(ow:Ow)(m:Mem)(x:Sem Next)(c:SV→Mem→Option R)(r:R):Prop:=
 ∃sv m' v w' aO,c sv m'=some r∧(x.run P w= .ok (.value v) w'∨(x.run P w= .ok .skip w'∧v=undef))∧aC w' may aO m'∧dZ may w ow m w' aO m'∧aS w' (ay aO m') may aO m' sv v
section
variable {R:Type} {P:Program} {T:dH} {w:World} {may:Nat→Prop} {ow:Ow} {m:Mem} {r:R}
theorem g_.quiet (M:aC w may ow m){x:Sem Value}{c:SV→Mem→Option R}{sv:SV}{v:Value}(h:c sv m=some r)(hx:x.run P w= .ok v w)(hv:aS w (ay ow m) may ow m sv v):
  g_ P may w ow m (do pure (.value (←x))) c r:=
 ⟨sv,m,v,w,ow,h,.inl (by simp[hx]),M,dZ.refl _ _ _ _,hv⟩
theorem g_.mono {m1:Mem}(K:dZ may w ow m w ow m1){x:Sem Next}{c:SV→Mem→Option R}(h:g_ P may w ow m1 x c r):g_ P may w ow m x c r:=by
 obtain⟨sv,m',v,w',aO,h1,h2,h3,h4,h5⟩:=h
 exact⟨sv,m',v,w',aO,h1,h2,h3,K.trans h4,h5⟩
theorem g_.newRow (M:aC w may ow m)(hm:∀b,w.heap.size≤b→may b){x:Sem Value}{c:SV→Mem→Option R}{row:Row}(h:newRow m row c=some r){v:Value}{w':World}(hx:x.run P w= .ok v w')
  (hb:Below w.heap.size w w') (Dl:row.rw=true) {cs:List Value} (dM:w'.ownsRow 0 row.e row.k.n v row.xs.length cs) (lQ:aY w (o7 (ay ow m) may row.fr) row.k row.xs cs)
  (nY:∀b,v.ownBlock=some b→w.heap.size≤b):g_ P may w ow m (do pure (.value (←x))) c r:=by
 obtain⟨M',K'⟩:=M.add (w':=w') row v hb.size hb.os hb.tape hb.output hb.block Dl cs dM lQ fun b e=>⟨hm b (nY b e),(World.ownsRow.lt dM b e).2,nY b e⟩
 obtain⟨A,q,rfl⟩:=ownsRow.slice dM
 refine⟨_,_,.slice A row.xs.length q,w',_,h,.inl (by simp[hx]),M',K',?_⟩
 refine⟨?_,_,_,_,rfl⟩
 show(ow.rv++[_])[m.rows.length]? =_
 rw[←M.lX];simp
theorem VT (TK:aZ P T)(M:aC w may ow m){t:TypeId}{n:Nat}{x:aT}{u:Value}{i:Int}{ki:IntKind}{c:SV→Mem→Option R}(hn:vJ T t=some n)(hx:aQ w (ay ow m) may ow x u)
  (h:rJ m n x i (fun v=>c v m)=some r):g_ P may w ow m (do pure (.value (←Instr.indexAt t u (.int ki i)))) c r:=by
 unfold vJ at hn
 split at hn
 case h_2=>cases hn
 rename_i e e' k' ag by' hT
 obtain rfl:=Option.some.inj hn
 obtain⟨hu,ei,yO,AY,_⟩:=(TK _ _ hT).desc
 injection AY with h1 h2
 subst h1 h2
 have pY:=fun w=>(TK _ _ yO).size (w:=w)
 have run:∀(A:Option Addr) (len cap:Nat) (ad:Addr),A=some ad→0≤i→i<len→(Instr.indexAt t (.slice A len cap) (.int ki i)).run P w= .ok (.pointer (some (ad.add (i.toNat*ei.k.n)))) w:=by
  intro A len cap ad hA h0 h1
  subst hA
  simp[Instr.indexAt,asIntOf,run_underlying hu,h0,h1,pY]
 cases x with
 |nil=>simp[rJ]at h
 |val fr k xs=>
  cases k<;>simp only[rJ]at h<;>try (cases h;done)
  rename_i e2 k
  obtain⟨hk,h⟩:=aG h
  have hk:=Nat.eq_of_beq_eq_true hk
  obtain⟨hi,h⟩:=aG h
  simp only[Bool.and_eq_true,decide_eq_true_eq]at hi
  obtain⟨A,cp,KQ,hc,KR⟩:=(hx:Rd _ _ _ _ _)
  obtain rfl:u= .slice A (List.length (α:=k.T) xs) cp:=by simpa using KQ
  obtain⟨ad,es,rfl,hl,ho,hr,hcell⟩:=KR i.toNat _ (getD_some (α:=k.T) xs k.d (by omega))
  refine g_.quiet M h (run _ _ _ ad rfl hi.1 hi.2) ?_
  refine⟨_,es,rfl,jE hr,fun j v hv=> ?_⟩
  have:=hcell j v hv
  rw[Addr.nT,Addr.gU]
  rw[hk]
  exact⟨ho.1,this⟩
 |own q=>
  simp only[rJ]at h
  cases hr:m.row? q with
  |none=>simp[hr]at h
  |some row=>
   simp only[hr]at h
   obtain⟨hk,h⟩:=aG h
   have hk:=Nat.eq_of_beq_eq_true hk
   obtain⟨hi,h⟩:=aG h
   simp only[Bool.and_eq_true,decide_eq_true_eq]at hi
   obtain⟨v,hv,RR⟩:=M.sl q row hr hx.1 hx.2
   obtain rfl:u=v:=Option.some.inj (hx.1.symm.trans hv)
   have uP:row.xs[i.toNat]? =some (row.xs.getD i.toNat row.k.d):=getD_some _ _ (by omega)
   cases hw:row.rw with
   |true=>
    rw[hw]at h
    obtain⟨_,R2⟩:=RR
    rw[hw]at R2
    simp only[if_true]at R2
    obtain⟨cs,dM,_⟩:=R2
    obtain⟨g,cap,rfl,_⟩:=World.ownsRow.form dM (by omega)
    refine g_.quiet M h (run _ _ _ _ rfl hi.1 hi.2) ?_
    refine⟨row?_lt hr,fun row' JH=> ?_⟩
    rw[hr]at JH
    obtain rfl:=Option.some.inj JH
    exact⟨by omega,g,_,_,hv,by rw[hk];rfl⟩
   |false=>
    rw[hw]at h
    obtain⟨_,R2⟩:=RR
    rw[hw]at R2
    simp only[Bool.false_eq_true,if_false]at R2
    obtain⟨A,cp,KQ,hc,KR⟩:=R2
    obtain rfl:u= .slice A row.xs.length cp:=by simpa using KQ
    obtain⟨ad,es,rfl,hl,ho,hrr,hcell⟩:=KR i.toNat _ uP
    refine g_.quiet M h (run _ _ _ ad rfl hi.1 hi.2) ?_
    refine⟨_,es,rfl,jE hrr,fun j v hv=> ?_⟩
    have:=hcell j v hv
    rw[Addr.nT,Addr.gU,hk]
    exact⟨ho.1,this⟩
theorem part?nK {x:SV}{q o len:Nat}(h:x.part? =some (q,o,len)):∃g,x= .sub q o len g:=by
 cases x<;>simp[SV.part?]at h
 obtain⟨rfl,rfl,rfl⟩:=h
 exact⟨_,rfl⟩
theorem Y_ (TK:aZ P T)(M:aC w may ow m){t:TypeId}{n:Nat}{x:SV}{u:Value}{i:Int}{ki:IntKind}{c:SV→Mem→Option R}(hn:vJ T t=some n)(hx:aS w (ay ow m) may ow m x u)
  (h:GV n x i (fun v=>c v m)=some r):g_ P may w ow m (do pure (.value (←Instr.indexAt t u (.int ki i)))) c r:=by
 unfold vJ at hn
 split at hn
 case h_2=>cases hn
 rename_i e e' k' ag by' hT
 obtain rfl:=Option.some.inj hn
 obtain⟨hu,ei,yO,AY,_⟩:=(TK _ _ hT).desc
 injection AY with h1 h2
 subst h1 h2
 have pY:=fun w=>(TK _ _ yO).size (w:=w)
 unfold GV at h
 split at h
 case h_2=>cases h
 rename_i et vs j q
 obtain⟨AY,h5⟩:=aG h
 clear h
 rw[Bool.and_eq_true,decide_eq_true_eq]at AY
 obtain⟨Qb,rfl⟩:=AY
 have hk:=Nat.eq_of_beq_eq_true Qb
 obtain⟨⟨A,cp,e1,hc,hx⟩,h0,y,h1,h2⟩:=hx
 have e2:=(List.cons.inj e1).1
 subst e2
 obtain⟨ad,es,rfl,hl,ho,⟨rfl,h3⟩,hcell⟩:=hx i.toNat y h1
 have dX:i.toNat<vs.length:=(List.getElem?_eq_some_iff.1 h1).1
 refine g_.quiet (v:= .pointer (some (ad.add i.toNat))) M h5 ?_ ⟨ad.add i.toNat,[y],rfl,⟨⟨h2,h3⟩,trivial⟩,fun j v hj=> ?_⟩
 ·have h4:i<((List.length (α:=K.hd.T) vs:Nat):Int):=by
   have:i.toNat<List.length (α:=K.hd.T) vs:=dX
   omega
  simp[Instr.indexAt,asIntOf,run_underlying hu,h0,h4,pY,hk]
 ·cases j with
  |zero=>
   obtain rfl:=Option.some.inj hj
   refine⟨by rw[Addr.gU];exact ho.1,?_⟩
   have:=hcell 0 y rfl
   rw[Addr.nT]
   simpa[K.n]using this
  |succ j=>simp at hj
theorem Za (TK:aZ P T)(M:aC w may ow m){t:TypeId}{n:Nat}{x:SV}{u:Value}{i:Int}{ki:IntKind}{c:SV→Mem→Option R}(hn:vJ T t=some n)(hx:aS w (ay ow m) may ow m x u)
  (h:zB m n x i (fun v=>c v m)=some r):g_ P may w ow m (do pure (.value (←Instr.indexAt t u (.int ki i)))) c r:=by
 unfold vJ at hn
 split at hn
 case h_2=>cases hn
 rename_i e e' k' ag by' hT
 obtain rfl:=Option.some.inj hn
 obtain⟨hu,ei,yO,AY,_⟩:=(TK _ _ hT).desc
 injection AY with h1 h2
 subst h1 h2
 have pY:=fun w=>(TK _ _ yO).size (w:=w)
 unfold zB at h
 split at h
 case h_2=>cases h
 rename_i q o len hp
 obtain⟨g,rfl⟩:=part?nK hp
 cases hr:m.row? q with
 |none=>simp[hr]at h
 |some row=>
  simp only[hr]at h
  obtain⟨hk,h⟩:=aG h
  rw[Bool.and_eq_true]at hk
  have hk:=Nat.eq_of_beq_eq_true hk.1
  obtain⟨hi,h⟩:=aG h
  simp only[Bool.and_eq_true,decide_eq_true_eq]at hi
  obtain⟨hq,_,hx⟩:=hx
  obtain⟨hle,_,hx⟩:=hx row hr
  obtain⟨γ,L,C,cp,hv,rfl,_⟩:=hx (by omega)
  refine g_.quiet (v:= .pointer (some ((⟨γ,0,none⟩:Addr).add ((o+i.toNat)*row.k.n)))) M h ?_ ?_
  ·simp [Instr.indexAt,asIntOf,run_underlying hu,hi.1,hi.2,pY]
   rw[Addr.nT,hk,Nat.add_mul]
  ·refine ⟨hq,fun row' JH=> ?_⟩
   rw[hr]at JH
   obtain rfl:=Option.some.inj JH
   exact⟨by omega,γ,_,_,hv,by rw[Nat.add_zero]⟩
end
theorem ap2 {α:Type}(cur:List α)(I o q n L:Nat)(h1:I+n≤L)(h2:L≤cur.length)(h3:o+q≤n):
  ∃a x y z b t,cur=a++(x++(y++(z++(b++t))))∧a.length=I∧x.length=o∧y.length=q∧o+q+z.length=n∧I+n+b.length=L:=by
 refine⟨cur.take I,(cur.drop I).take o,(cur.drop (I+o)).take q,(cur.drop (I+o+q)).take (n-o-q),(cur.drop (I+n)).take (L-I-n),cur.drop L,?_,?_,?_,?_,?_,?_⟩
 ·have e1:cur.drop L=(cur.drop (I+n)).drop (L-I-n):=by rw[List.drop_drop];congr 1;omega
  have e2:cur.drop (I+n)=(cur.drop (I+o+q)).drop (n-o-q):=by rw[List.drop_drop];congr 1;omega
  rw[e1,List.take_append_drop]
  rw[e2,List.take_append_drop]
  rw[←List.drop_drop (l:=cur) (i:=q) (j:=I+o),List.take_append_drop,←List.drop_drop (l:=cur) (i:=o) (j:=I),List.take_append_drop,List.take_append_drop]
 all_goals simp only[List.length_take,List.length_drop];omega
theorem SY {α:Type}(cur nv:List α)(I n o L:Nat)(h1:I+n≤L)(h2:L≤cur.length)(h3:o+nv.length≤n):
  (cur.take (I+o)++nv++cur.drop (I+o+nv.length)).take L=
   (cur.take L).take I++(((cur.drop I).take n).take o++nv++((cur.drop I).take n).drop (o+nv.length))++(cur.take L).drop (I+n):=by
 obtain⟨a,x,y,z,b,t,rfl,rfl,rfl,hy,hz,hb⟩:=ap2 cur I o nv.length n L h1 h2 h3
 have hL:L=a.length+(x.length+(y.length+(z.length+b.length))):=by omega
 have hn:n=x.length+(y.length+z.length):=by omega
 subst hL hn
 rw[←hy]
 have e1:(a++(x++(y++(z++(b++t))))).take (a.length+x.length)=a++x:=by
  rw[←List.append_assoc,←List.length_append];exact List.take_left
 have e2:(a++(x++(y++(z++(b++t))))).drop (a.length+x.length+y.length)=z++(b++t):=by
  rw[←List.append_assoc,←List.append_assoc,←List.length_append,←List.length_append];exact List.drop_left
 have e3:(a++(x++(y++(z++(b++t))))).take (a.length+(x.length+(y.length+(z.length+b.length))))=a++(x++(y++(z++b))):=by
  have:a++(x++(y++(z++(b++t))))=(a++(x++(y++(z++b))))++t:=by simp
  rw[this]
  have hl:(a++(x++(y++(z++b)))).length=a.length+(x.length+(y.length+(z.length+b.length))):=by simp
  rw[←hl];exact List.take_left
 have e4:((a++(x++(y++(z++(b++t))))).drop a.length).take (x.length+(y.length+z.length))=x++(y++z):=by
  rw[List.drop_left]
  have:x++(y++(z++(b++t)))=(x++(y++z))++(b++t):=by simp
  rw[this]
  have hl:(x++(y++z)).length=x.length+(y.length+z.length):=by simp
  rw[←hl];exact List.take_left
 have e5:(x++(y++z)).drop (x.length+y.length)=z:=by
  rw[←List.append_assoc,←List.length_append];exact List.drop_left
 have e6:(a++(x++(y++(z++b)))).drop (a.length+(x.length+(y.length+z.length)))=b:=by
  have:a++(x++(y++(z++b)))=(a++(x++(y++z)))++b:=by simp
  rw[this]
  have hl:(a++(x++(y++z))).length=a.length+(x.length+(y.length+z.length)):=by simp
  rw[←hl];exact List.drop_left
 have e7:(a++x++nv++(z++(b++t))).take (a.length+(x.length+(y.length+(z.length+b.length))))=a++x++nv++(z++b):=by
  have:a++x++nv++(z++(b++t))=(a++x++nv++(z++b))++t:=by simp
  rw[this]
  have hl:(a++x++nv++(z++b)).length=a.length+(x.length+(y.length+(z.length+b.length))):=by simp;omega
  rw[←hl];exact List.take_left
 rw[e1,e2,e3,e4,List.take_left,List.take_left,e5,e6,e7]
 simp
section
variable {R:Type} {P:Program} {T:dH} {w:World} {may:Nat→Prop} {ow:Ow} {m:Mem} {r:R}
theorem yT {t:TypeId}{p:Bool×Nat}(h:JG T t=some p):∃ti,T t=some ti∧p=(ti.agg,ti.k.n):=by
 unfold JG at h
 obtain⟨ti,h1,h2⟩:=Option.map_eq_some_iff.1 h
 exact⟨ti,h1,h2.symm⟩
theorem XF {ok:Nat→Prop}{agg:Bool}{ls:List aT}{vs:List Value}{v:lM}(h:F2 (aQ w ok may ow) ls vs)(e:GL agg ls=some v):
  (agg=true∧bG w ok may ow v (.agg vs.toArray))∨(agg=false∧∃u,vs=[u]∧bG w ok may ow v u):=by
 unfold GL at e
 split at e
 ·obtain rfl:=Option.some.inj e
  exact .inl ⟨rfl,vs,rfl,h⟩
 ·obtain rfl:=Option.some.inj e
  match vs,h with
  |[u],h=>exact .inr ⟨rfl,u,rfl,h.1⟩
  |_::_::_,h=>exact h.2.elim
 ·cases e
theorem DX {ok:Nat→Prop}(TK:aZ P T){t:TypeId}{ti:TI}(hT:T t=some ti){ad:Addr}{ls:List aT}{vs:List Value}{v:lM}(h:F2 (aQ w ok may ow) ls vs)(hl:ls.length=ti.k.n)
  (hc:∀j u,vs[j]? =some u→w.cell? (ad.add j)=some u) (e:GL ti.agg ls=some v):∃u,(loadVar t ad).run P w= .ok u w∧bG w ok may ow v u:=by
 have hlen:=h.len
 rcases XF h e with⟨ha,hr⟩|⟨ha,u,rfl,hr⟩
 ·refine ⟨_,?_,hr⟩
  have hl2:=run_loadCells_list (P:=P) w ad vs hc
  rw[←hlen,hl]at hl2
  simp[loadVar,(TK _ _ hT).isAgg,(TK _ _ hT).size,ha,hl2]
 ·refine ⟨u,?_,hr⟩
  have hcell:w.cell? ad=some u:=by simpa[Addr.add]using hc 0 u rfl
  simp[loadVar,(TK _ _ hT).isAgg,ha,hcell]
theorem aa7 (M:aC w may ow m){q:Nat}{row:Row}(hr:m.row? q=some row){i:Nat}(hi:i<row.xs.length){g n c:Nat}(hv:ow.rv[q]? =some (.slice (some ⟨g,0,none⟩) n c)):
  ∃es,F2 (aQ w (ay ow m) may ow) (bf row.fr row.k (row.xs.getD i row.k.d)) es∧∀j u,es[j]? =some u→w.cell? ⟨g,i*row.k.n+j,none⟩=some u:=by
 obtain⟨v,Cm,RR⟩:=M.sl q row hr hv ⟨_,_,_,rfl⟩
 obtain rfl:=Option.some.inj (Cm.symm.trans hv)
 have uP:=getD_some row.xs row.k.d hi
 obtain⟨_,R2⟩:=RR
 cases hw:row.rw with
 |true=>
  rw[hw]at R2
  simp only[if_true]at R2
  obtain⟨cs,dM,lQ⟩:=R2
  obtain⟨es,he,hc,_⟩:=lQ.at_ uP
  refine⟨es,jE he,fun j u hu=> ?_⟩
  have:=World.ownsRow.cells dM (g:=g) rfl _ _ (hc j u hu)
  rwa[Addr.fO]at this
 |false=>
  rw[hw]at R2
  simp only[Bool.false_eq_true,if_false]at R2
  obtain⟨A,cp,KQ,hc,KR⟩:=R2
  obtain⟨ad,es,rfl,hl,ho,hrr,hcell⟩:=KR i _ uP
  have e:(⟨g,0,none⟩:Addr)=ad:=by
   injection KQ with KQ
   injection KQ with KQ
   injection KQ
  subst e
  refine⟨es,jE hrr,fun j u hu=> ?_⟩
  have:=hcell j u hu
  rwa[Addr.fO]at this
theorem aa8 (TK:aZ P T)(M:aC w may ow m){t:TypeId}{x:SV}{u:Value}{c:SV→Mem→Option R}(hx:aS w (ay ow m) may ow m x u)(h:Du T m t x (fun v=>c v m)=some r):
  g_ P may w ow m (do pure (.value (←Instr.loadAt t u))) c r:=by
 unfold Du at h
 cases ht:JG T t with
 |none=>simp[ht]at h
 |some p=>
  obtain⟨ti,hT,rfl⟩:=yT ht
  simp only[ht]at h
  have fin:∀(ad:Addr) (ls:List aT) (vs:List Value),u= .pointer (some ad)→F2 (aQ w (ay ow m) may ow) ls vs→(∀j u,vs[j]? =some u→w.cell? (ad.add j)=some u)→
    (bif Nat.beq ls.length ti.k.n then(match GL ti.agg ls with|some v=>c (.one v) m|none=>none)else none)=some r→
    g_ P may w ow m (do pure (.value (←Instr.loadAt t u))) c r:=by
   intro ad ls vs hu hF hc h
   obtain⟨hl,h⟩:=aG h
   have hl:=Nat.eq_of_beq_eq_true hl
   cases e:GL ti.agg ls with
   |none=>simp[e]at h
   |some v=>
    simp only[e]at h
    obtain⟨z,hz,hr⟩:=DX TK hT hF hl hc e
    subst hu
    exact g_.quiet M h (by simp[Instr.loadAt,Instr.sureAddr,hz]) hr
  cases x with
  |undef=>simp at h
  |one=>simp at h
  |JF=>simp at h
  |sub=>simp at h
  |kX=>simp at h
  |hd=>simp at h
  |PU=>simp at h
  |sK=>simp at h
  |ref ls=>
   obtain⟨ad,vs,rfl,hF,hc⟩:=hx
   exact fin ad _ _ rfl (hF.take _) (fun j u hu=>(hc j u (by rw[List.getElem?_take]at hu;split at hu;exact hu;cases hu)).2) h
  |Dt q i o=>
   simp only at h
   cases hr:m.row? q with
   |none=>simp[hr]at h
   |some row=>
    simp only[hr]at h
    obtain⟨_,hx⟩:=hx
    obtain⟨hi,g,n,cp,hv,rfl⟩:=hx row hr
    obtain⟨es,hF,hc⟩:=aa7 M hr hi hv
    refine fin _ _ _ rfl ((hF.drop o).take _) (fun j u hu=> ?_) h
    rw[List.getElem?_take]at hu
    split at hu
    ·rw [List.getElem?_drop]at hu
     rw[Addr.nT,Addr.fO]
     have:=hc _ _ hu
     rwa[←Nat.add_assoc]at this
    ·cases hu
  |box b o=>
   simp only at h
   cases hb:m.box? b with
   |none=>simp[hb]at h
   |some bx=>
    simp only[hb]at h
    obtain⟨g,hg,rfl⟩:=hx
    obtain⟨g',zA,vs,hh,hF⟩:=M.boxes b bx hb
    obtain rfl:=Option.some.inj (Option.some.inj (hg.symm.trans zA))
    refine fin _ _ _ rfl ((hF.drop o).take _) (fun j u hu=> ?_) h
    rw[List.getElem?_take]at hu
    split at hu
    ·rw [List.getElem?_drop]at hu
     rw[Addr.nT,Addr.fO,cell_of_row w g _ vs.toArray bx.t (0,0) hh]
     simpa using hu
    ·cases hu
theorem vV (w:World)(g:Nat)(cs:Array Value)(b:Nat)(h:b≠g):(w.setRow g cs).heap[b]? =w.heap[b]? :=by
 simp only[World.setRow,Array.getElem?_modify]
 rw[if_neg (by omega)]
theorem setRow_size (w:World)(g:Nat)(cs:Array Value):(w.setRow g cs).heap.size=w.heap.size:=by simp[World.setRow]
theorem IE (TK:aZ P T){t:TypeId}{ti:TI}(hT:T t=some ti){g o:Nat}{e:TypeId}{cur:Array Value}{v:Value}(hg:w.heap[g]? =some (.cells cur e (0,0)))(hl:v.cells.toList.length=ti.k.n)
  (DY:o+ti.k.n≤cur.size) (h1:∀u∈v.cells.toList,u.oneCell'=true):
  (storeVar t ⟨g,o,none⟩ v).run P w= .ok () (w.setRow g (cur.toList.take o++v.cells.toList++cur.toList.drop (o+v.cells.toList.length)).toArray):=by
 have EO:=run_storeCells_at P g o e v.cells.toList 0 cur w hg (by simpa[hl]using DY) h1
 have VL:v.cells.size=ti.k.n:=by simpa using hl
 simp only[Nat.add_zero]at EO
 simp only[storeVar,Sem.run_bind,(TK _ _ hT).size,Result.andThen_ok,VL,ne_eq,not_true_eq_false,if_false,EO,Sem.run_ite]
theorem Zc (TK:aZ P T)(M:aC w may ow m){t:TypeId}{x:SV}{u z:Value}{v:lM}{c:SV→Mem→Option R}(hx:aS w (ay ow m) may ow m x u)(hv:bG w (ay ow m) may ow v z)
  (h:ny T m t x v (fun m'=>c .undef m')=some r):g_ P may w ow m (do Instr.storeAt t u z;pure .skip) c r:=by
 unfold ny at h
 cases ht:JG T t with
 |none=>simp[ht]at h
 |some p=>
  obtain⟨ti,hT,rfl⟩:=yT ht
  simp only[ht]at h
  obtain⟨hl,h⟩:=aG h
  have hl:=Nat.eq_of_beq_eq_true hl
  have hF:=hv.cells
  have hlen:z.cells.toList.length=ti.k.n:=hF.len▸hl
  have Jl:=F2.afb hF
  cases x with
  |undef=>simp at h
  |one=>simp at h
  |JF=>simp at h
  |sub=>simp at h
  |kX=>simp at h
  |hd=>simp at h
  |PU=>simp at h
  |sK=>simp at h
  |ref ls=>simp at h
  |Dt q i o=>
   simp only at h
   obtain⟨M1,K1⟩:=M.aI v.leaves
   cases hr:(m.aI v.leaves).row? q with
   |none=>simp[hr]at h
   |some row=>
    simp only[hr]at h
    obtain⟨hw,h⟩:=aG h
    simp only[Bool.and_eq_true]at hw
    obtain⟨hw,DY⟩:=hw
    have DY:=Nat.le_of_ble_eq_true DY
    cases hp:bM (m.aI v.leaves) row.k (mF (bf row.fr row.k (row.xs.getD i row.k.d)) o v.leaves)with
    |none=>simp only[hp]at h;cases h
    |some y=>
     simp only[hp]at h
     have Qc:aS w (ay ow (m.aI v.leaves)) may ow (m.aI v.leaves) (.Dt q i o) u:=aS.aW K1 hx
     obtain⟨_,Qc⟩:=Qc
     obtain⟨hi,g,n,cp,Nr,rfl⟩:=Qc row hr
     obtain⟨v',Cm,RR⟩:=M1.sl q row hr Nr ⟨_,_,_,rfl⟩
     obtain rfl:=Option.some.inj (Cm.symm.trans Nr)
     obtain⟨_,R2⟩:=RR
     rw[hw]at R2
     simp only[if_true]at R2
     obtain⟨cs,dM,lQ⟩:=R2
     have hF1:F2 (aQ w (ay ow (m.aI v.leaves)) may ow) v.leaves z.cells.toList:=hF.imp fun _ _ h=>aQ.aW K1.stay K1.rv h
     have uP:=getD_some row.xs row.k.d hi
     obtain⟨es,he,hec,hsp⟩:=lQ.at_ uP
     have hes:=he.len
     have ap4:=F2.mF (o:=o) (jE (ow:=ow) he) hF1
     have hfz:∀l∈mF (bf row.fr row.k (row.xs.getD i row.k.d)) o v.leaves,yw (m.aI v.leaves) l:=by
      intro l hl
      unfold mF at hl
      rcases List.mem_append.1 hl with hl|hl
      ·rcases List.mem_append.1 hl with hl|hl
       ·exact fun r e=>absurd (List.mem_of_mem_take hl) (by subst e;exact vU _ _ _ _)
       ·exact lY v.leaves m l hl
      ·exact fun r e=>absurd (List.mem_of_mem_drop hl) (by subst e;exact vU _ _ _ _)
     have hy:=yS M1 hfz ap4 hp
     have Qe:Rd w (o7 (ay ow (m.aI v.leaves)) may (row.fr&&v.leaves.all (fK (m.aI v.leaves)))) row.k y (es.take o++z.cells.toList++es.drop (o+z.cells.toList.length)):=by
      refine hy.up fun g=> ?_
      simp only[Bool.and_eq_true]at g
      unfold mF
      simp only[List.all_append,Bool.and_eq_true]
      have hs:∀l∈bf row.fr row.k (row.xs.getD i row.k.d),fK (m.aI v.leaves) l=true:=by rw[g.1];exact fun l hl=>KO _ _ l hl
      exact⟨⟨List.all_eq_true.2 fun l hl=>hs l (List.mem_of_mem_take hl),g.2⟩,List.all_eq_true.2 fun l hl=>hs l (List.mem_of_mem_drop hl)⟩
     have VU:=(lQ.aW (ok':=o7 (ay ow (m.aI v.leaves)) may (row.fr&&v.leaves.all (fK (m.aI v.leaves)))) (iF.mono fun b _ hb=>⟨hb.1,fun g=>hb.2 (by simp at g;exact g.1)⟩)).set hi Qe
     rcases dM.2 with⟨e1,_⟩|⟨g',cap,cur,e1,_,hh,VW,hcm,sW,Aw⟩
     ·cases e1
     injection e1 with e1 e2 e3
     injection e1 with e1
     injection e1 with e1
     subst e1 e3
     have Zd:cs.length=row.xs.length*row.k.n:=dM.1
     have ap5:i*row.k.n+row.k.n≤row.xs.length*row.k.n:=by
      have:=Nat.mul_le_mul_right row.k.n (show i+1≤row.xs.length by omega)
      rwa[Nat.add_mul,Nat.one_mul]at this
     have ali:cs.length≤cur.size:=by rw[Zd,sW];exact Nat.mul_le_mul_right _ VW
     have vW:=IE TK hT (v:=z) hh hlen (o:=i*row.k.n+o) (by omega) Jl
     have ap6:es=(cur.toList.drop (i*row.k.n)).take row.k.n:=by
      apply List.ext_getElem?
      intro j
      by_cases hj:j<row.k.n
      ·rw [List.getElem?_take_of_lt hj,List.getElem?_drop]
       have h1:=List.getElem?_eq_getElem (show j<es.length by omega)
       have h2:=hec j _ h1
       rw[h1,←h2,←Aw,List.getElem?_take_of_lt (by omega)]
      ·rw [List.getElem?_eq_none (by omega),List.getElem?_eq_none (by simp only[List.length_take];omega)]
     have alj:(cur.toList.take (i*row.k.n+o)++z.cells.toList++cur.toList.drop (i*row.k.n+o+z.cells.toList.length)).take (row.xs.length*row.k.n)=
       cs.take (i*row.k.n)++(es.take o++z.cells.toList++es.drop (o+z.cells.toList.length))++cs.drop (i*row.k.n+row.k.n):=by
      rw[SY cur.toList z.cells.toList (i*row.k.n) row.k.n o (row.xs.length*row.k.n) ap5 (by simp;omega) (by omega),Aw,←ap6]
     refine g_.mono K1 ?_
     have S9:z.cells.size=ti.k.n:=by simpa using hlen
     have xU:(w.setRow g (cur.toList.take (i*row.k.n+o)++z.cells.toList++cur.toList.drop (i*row.k.n+o+z.cells.toList.length)).toArray).ownsRow 0 row.e row.k.n
       (.slice (some ⟨g,0,none⟩) n cp) (row.xs.set i y).length (cs.take (i*row.k.n)++(es.take o++z.cells.toList++es.drop (o+z.cells.toList.length))++cs.drop (i*row.k.n+row.k.n)):=by
      refine⟨?_,.inr ⟨g,cp,_,by simp[←e2],Nat.zero_le _,setRow_heap w g cur _ row.e _ hh,?_,hcm,?_,?_⟩⟩
      ·rw [←alj]
       simp only[List.length_set,List.length_take,List.length_append,List.length_drop]
       simp only[Array.length_toList]
       omega
      ·simpa using VW
      ·rw [←sW]
       simp only[List.size_toArray,List.length_append,List.length_take,List.length_drop,Array.length_toList]
       omega
      ·rw [←alj];simp
     obtain⟨M2,K2⟩:=M1.write (w':=w.setRow g (cur.toList.take (i*row.k.n+o)++z.cells.toList++cur.toList.drop (i*row.k.n+o+z.cells.toList.length)).toArray) q row
      {row with fr:=row.fr&&v.leaves.all (fK (m.aI v.leaves)),xs:=row.xs.set i y} _ hr Nr hw rfl (by simp) hw (setRow_size _ _ _) rfl rfl rfl
      (fun b hb wH=>vV w g _ b (fun e=>wH (by rw[e];rfl))) _ xU VU
     exact⟨_,_,undef,_,ow,h,.inr ⟨by simp[Instr.storeAt,Instr.sureAddr,Addr.fO,vW],rfl⟩,M2,K2,trivial⟩
  |box b o=>
   simp only at h
   cases hb:m.box? b with
   |none=>simp[hb]at h
   |some bx=>
    simp only[hb]at h
    obtain⟨DY,h⟩:=aG h
    have DY:=Nat.le_of_ble_eq_true DY
    obtain⟨g,hg,rfl⟩:=hx
    obtain⟨g',zA,vs,hh,hFb⟩:=M.boxes b bx hb
    obtain rfl:=Option.some.inj (Option.some.inj (hg.symm.trans zA))
    have vW:=IE TK hT (v:=z) hh hlen (o:=o) (by have:=hFb.len;simp;omega) Jl
    simp only[List.toList_toArray]at vW
    obtain⟨M2,K2⟩:=M.KL (w':=w.setRow g (vs.take o++z.cells.toList++vs.drop (o+z.cells.toList.length)).toArray) b bx {bx with ls:=mF bx.ls o v.leaves} g hb hg rfl
     (setRow_size _ _ _) rfl rfl rfl (fun c hc wH=>vV w g _ c wH) _ (setRow_heap w g vs.toArray _ bx.t _ hh) (F2.mF hFb hF)
    exact⟨_,_,undef,_,ow,h,.inr ⟨by simp[Instr.storeAt,Instr.sureAddr,Addr.fO,vW],rfl⟩,M2,K2,trivial⟩
end
theorem EP {w:World}{ok:Nat→Prop}:∀(k:K),k.noP=true→Rd w ok k k.d (zeroCells k)
 | .int _,_=>rfl
 | .bool,_=>rfl
 | .str,_=>rfl
 | .unit,_=>rfl
 | .raw,_=>⟨rfl,rfl⟩
 | .hd,_=>⟨rfl,_,_,_,rfl⟩
 | .Ce _,_=>rfl
 | .sl _ k,_=>⟨none,0,rfl,Nat.le_refl _,fun i x hi=>by simp[K.d]at hi⟩
 | .prod a b,h=>⟨_,_,rfl,EP a ((Bool.and_eq_true _ _).mp h).1,EP b ((Bool.and_eq_true _ _).mp h).2⟩
theorem Bl:∀k:K,(zeroCells k).length=k.n
 | .int _| .bool| .str| .unit| .raw| .hd| .Ce _| .sl _ _=>rfl
 | .prod a b=>by simp[zeroCells,K.n,Bl a,Bl b]
theorem uS {w:World}{ok may:Nat→Prop}{ow:Ow}:∀(k:K),F2 (aQ w ok may ow) (kM k) (zeroCells k)
 | .int _=>⟨rfl,trivial⟩
 | .bool=>⟨rfl,trivial⟩
 | .str=>⟨rfl,trivial⟩
 | .unit=>trivial
 | .raw=>⟨⟨rfl,rfl⟩,trivial⟩
 | .hd=>⟨rfl,trivial⟩
 | .Ce _=>⟨rfl,trivial⟩
 | .sl _ k=>⟨rfl,trivial⟩
 | .prod a b=>(uS a).append (uS b)
theorem KT (z:Array Value)(n:Nat)(h:0<z.size):(madeCells z (n*z.size)).toList=(List.replicate n z.toList).flatten:=by
 induction n with
 |zero=>simp[madeCells]
 |succ n ih=>
  rw[List.replicate_succ',List.flatten_append,←ih]
  apply List.ext_getElem
  ·simp [madeCells,Nat.succ_mul]
  ·intro i h1 h2
   simp only[madeCells,Array.toList_map,List.getElem_map,Array.getElem_toList,Array.getElem_range]at h1 h2⊢
   simp only[List.length_map,Array.length_toList,Array.size_range,Nat.succ_mul]at h1
   by_cases hi:i<n*z.size
   ·rw [List.getElem_append_left (by simp;exact hi)]
    simp
   ·rw [List.getElem_append_right (by simp;omega)]
    have e:i%z.size=i-n*z.size:=by
     have:i=n*z.size+(i-n*z.size):=by omega
     rw[this,Nat.mul_comm,Nat.mul_add_mod,Nat.mod_eq_of_lt (by rw[Nat.mul_comm];omega)]
     rw[Nat.mul_comm];omega
    simp[e,getElem!_pos,show i-n*z.size<z.size by omega]
section
variable {R:Type} {P:Program} {T:dH} {w:World} {may:Nat→Prop} {ow:Ow} {m:Mem} {r:R}
theorem zH (w:World)(o:Obj):Below w.heap.size w (w.alloc o):=(Below.refl _ _).alloc (Nat.le_refl _) o
theorem aa9 (TK:aZ P T)(M:aC w may ow m)(hm:∀b,w.heap.size≤b→may b){t e:TypeId}{k:K}{ag:Bool}{by':Nat}{ei:TI}(hT:T t=some ⟨.sl e,.sl e k,ag,by'⟩)(yO:T e=some ei)(hz:ei.k.noP=true)
  {n q:Int} {kn kq:IntKind} {c:SV→Mem→Option R} (h0:0≤n) (h1:n≤q) (h2:q.toNat*ei.bytes≤281474976710656) (VX:0<ei.bytes)
  (h:newRow m ⟨e,k,true,true,List.replicate n.toNat k.d⟩ c=some r):g_ P may w ow m (do pure (.value (←Instr.makeSlice t (.int kn n) (.int kq q)))) c r:=by
 obtain⟨hu,ei',alk,AY,Bo⟩:=(TK _ _ hT).desc
 rw[yO]at alk
 obtain rfl:=Option.some.inj alk
 injection AY with _ AY
 subst AY
 obtain⟨inf,yx,JI,hi3,z,S9,Si⟩:=(TK _ _ yO).info
 have hq:q≤281474976710656:=by
  have:q.toNat≤q.toNat*ei.bytes:=Nat.le_mul_of_pos_right _ VX
  omega
 have DZ:(inf.bytes:Int)*q≤281474976710656:=by
  rw[hi3]
  have e1:((q.toNat*ei.bytes:Nat):Int)=(ei.bytes:Int)*q:=by
   rw[Int.natCast_mul,Int.toNat_of_nonneg (by omega),Int.mul_comm]
  omega
 have vW:=run_make (P:=P) w t e inf z hu yx S9 kn kq n q h0 h1 DZ (by omega)
 have S_:z.cells.size=ei.k.n:=by rw[←Array.length_toList,Si,Bl]
 rw[JI]at vW
 have hml:(madeCells z.cells (q.toNat*ei.k.n)).toList=(List.replicate q.toNat (zeroCells ei.k)).flatten:=by
  have:=KT z.cells q.toNat (by omega)
  rwa[S_,Si]at this
 refine g_.newRow M hm h vW (zH _ _) rfl (cs:=(List.replicate n.toNat (zeroCells ei.k)).flatten) ?_ (aY.replicate (EP _ hz) _) (fun b hb=> ?_)
 ·simp only[List.length_replicate]
  refine⟨?_,.inr ⟨w.heap.size,q.toNat,_,rfl,Nat.zero_le _,heap_alloc_new w _,by omega,?_,?_,?_⟩⟩
  ·exact (aY.replicate (w:=w) (ok:=fun _=>True) (EP ei.k hz) n.toNat).len.trans (by simp)
  ·unfold maxLen;omega
  ·exact size_madeCells _ _
  ·rw [hml]
   have:List.replicate q.toNat (zeroCells ei.k)=List.replicate n.toNat (zeroCells ei.k)++List.replicate (q.toNat-n.toNat) (zeroCells ei.k):=by
    rw[List.replicate_append_replicate];congr 1;omega
   rw[this,List.flatten_append]
   have hl:(List.replicate n.toNat (zeroCells ei.k)).flatten.length=n.toNat*ei.k.n:=
    (aY.replicate (w:=w) (ok:=fun _=>True) (EP ei.k hz) n.toNat).len.trans (by simp)
   rw[←hl,List.take_left]
 ·simp [Value.ownBlock]at hb;omega
theorem aa_ (M:aC w may ow m)(hm:∀b,w.heap.size≤b→may b){t:TypeId}{ls:List aT}{v:Value}{c:SV→Mem→Option R}(hF:F2 (aQ w (ay ow m) may ow) ls v.cells.toList)
  (h:c (.box m.boxes.length 0) ⟨m.rows,m.boxes++[some ⟨t,ls⟩]⟩=some r) {x:Sem Value} (hx:x.run P w= .ok (.pointer (some ⟨w.heap.size,0,none⟩)) (w.alloc (.cells v.cells t))):
  g_ P may w ow m (do pure (.value (←x))) c r:=by
 obtain⟨M',K'⟩:=M.P9 ⟨t,ls⟩ v.cells.toList (hm _ (Nat.le_refl _)) hF
 simp only[Array.toArray_toList]at M' K'
 refine⟨_,_,.pointer (some ⟨w.heap.size,0,none⟩),_,_,h,.inl (by simp[hx]),M',K',w.heap.size,?_,by simp[Addr.add]⟩
 rw[←M.jc];simp
theorem abb (TK:aZ P T)(M:aC w may ow m)(hm:∀b,w.heap.size≤b→may b){t:TypeId}{ti:TI}(hT:T t=some ti){c:SV→Mem→Option R}
  (h:c (.box m.boxes.length 0) ⟨m.rows,m.boxes++[some ⟨t,kM ti.k⟩]⟩=some r):g_ P may w ow m (do pure (.value (←Instr.alloc t true (.tuple #[])))) c r:=by
 obtain⟨inf,yx,JI,hi3,z,S9,Si⟩:=(TK _ _ hT).info
 refine aa_ M hm (v:=z) (by rw[Si];exact uS _) h ?_
 simp[Instr.alloc,zeroValue,typeInfo,yx,S9,newVar,Go.newRow]
theorem abd (TK:aZ P T)(M:aC w may ow m)(hm:∀b,w.heap.size≤b→may b){t:TypeId}{ti:TI}(hT:T t=some ti){b0:Nat}(hb:m.box? b0=none)(hl:b0<m.boxes.length)(hn:ow.bb[b0]? =some none):
  ∃w' aO,(do pure (Next.value (←Instr.alloc t true (.tuple #[]))):Sem Next).run P w= .ok (.value (.pointer (some ⟨w.heap.size,0,none⟩))) w'∧aO=⟨ow.rv,ow.bb.set b0 (some w.heap.size)⟩∧aC w' may aO ⟨m.rows,m.boxes.set b0 (some ⟨t,kM ti.k⟩)⟩∧dZ may w ow m w' aO ⟨m.rows,m.boxes.set b0 (some ⟨t,kM ti.k⟩)⟩:=by
 obtain⟨inf,yx,JI,hi3,z,S9,Si⟩:=(TK _ _ hT).info
 obtain⟨M',K'⟩:=M.afc b0 ⟨t,kM ti.k⟩ z.cells.toList (hm _ (Nat.le_refl _)) (by rw[Si];exact uS _) hb hl hn
 simp only[Array.toArray_toList]at M' K'
 have hx:(Instr.alloc t true (.tuple #[])).run P w= .ok (.pointer (some ⟨w.heap.size,0,none⟩)) (w.alloc (.cells z.cells t)):=by
  simp[Instr.alloc,zeroValue,typeInfo,yx,S9,newVar,Go.newRow]
 exact⟨_,_,by simp[hx],rfl,M',K'⟩
theorem afh (M:aC w may ow m)(hm:∀b,w.heap.size≤b→may b){t:TypeId}{v:lM}{u:Value}{c:SV→Mem→Option R}(hv:bG w (ay ow m) may ow v u)
  (h:c (.box m.boxes.length 0) ⟨m.rows,m.boxes++[some ⟨t,v.leaves⟩]⟩=some r):g_ P may w ow m (do pure (.value (←Instr.box t u))) c r:=
 aa_ M hm (v:=u) hv.cells h (by simp[Instr.box,newVar,Go.newRow])
theorem Qg (TK:aZ P T)(M:aC w may ow m){t:TypeId}{f:Nat}{x:SV}{u:Value}{c:SV→Mem→Option R}(hx:aS w (ay ow m) may ow m x u){o:Nat}{ft:TypeId}(hf:fieldAt T t f=some (o,ft))
  (h:(match x with
   | .ref ls=>match JG T ft with
    |some (_,n)=>c (.ref ((ls.drop o).take n)) m
    |none=>none
   | .Dt r i o'=>match m.row? r with
    |some _=>c (.Dt r i (o'+o)) m
    |none=>none
   | .box b o'=>c (.box b (o'+o)) m
   |_=>none)=some r):g_ P may w ow m (do pure (.value (←Instr.fieldAt t u f))) c r:=by
 unfold fieldAt at hf
 split at hf
 case h_2=>cases hf
 rename_i fs k ag by' hT
 obtain⟨F,hu,_,hF⟩:=(TK _ _ hT).desc
 obtain⟨fd,h1,h2,h3,fi,h4,h5⟩:=hF _ _ _ hf
 have pY:=fun w=>(TK _ _ h4).size (w:=w)
 have run:∀ad:Addr,(Instr.fieldAt t (.pointer (some ad)) f).run P w= .ok (.pointer (some (ad.add o))) w:=by
  intro ad
  simp[Instr.fieldAt,run_underlying hu,h1,Instr.sureAddr,fieldPlace,h3,pY,h2,Nat.ne_of_gt h5]
 cases x with
 |undef=>cases h
 |one=>cases h
 |JF=>cases h
 |sub=>cases h
 |kX=>cases h
 |hd=>cases h
 |PU=>cases h
 |sK=>cases h
 |ref ls=>
  simp only at h
  obtain⟨ad,vs,rfl,hFF,hc⟩:=hx
  cases ht:JG T ft with
  |none=>simp[ht]at h
  |some p=>
   obtain⟨n1,n⟩:=p
   simp only[ht]at h
   refine g_.quiet M h (run ad) ⟨_,_,rfl,(hFF.drop o).take n,fun j u hu=> ?_⟩
   rw[List.getElem?_take]at hu
   split at hu
   ·rw [List.getElem?_drop]at hu
    rw[Addr.gU,Addr.nT]
    exact hc _ _ hu
   ·cases hu
 |Dt q i o'=>
  simp only at h
  obtain⟨hq,hx⟩:=hx
  cases hr:m.row? q with
  |none=>simp[hr]at h
  |some row=>
   simp only[hr]at h
   obtain⟨hi,g,n,cp,hv,rfl⟩:=hx row hr
   refine g_.quiet M h (run _) ⟨hq,fun row' JH=> ?_⟩
   rw[hr]at JH
   obtain rfl:=Option.some.inj JH
   exact⟨hi,g,n,cp,hv,by rw[Addr.nT,Nat.add_assoc]⟩
 |box b o'=>
  simp only at h
  obtain⟨g,hg,rfl⟩:=hx
  exact g_.quiet M h (run _) ⟨g,hg,by rw[Addr.nT]⟩
theorem afi {ok:Nat→Prop}(TK:aZ P T){t:TypeId}{ti:TI}(hT:T t=some ti){ls:List aT}{vs:List Value}{v:lM}{o:Nat}(h:F2 (aQ w ok may ow) ls vs)
  (hl:((ls.drop o).take ti.k.n).length=ti.k.n) (e:GL ti.agg ((ls.drop o).take ti.k.n)=some v):∃u,(part t vs.toArray o).run P w= .ok u w∧bG w ok may ow v u:=by
 have hF:=(h.drop o).take ti.k.n
 rcases XF hF e with⟨ha,hr⟩|⟨ha,u,hu,hr⟩
 ·refine ⟨_,?_,hr⟩
  simp[part,(TK _ _ hT).isAgg,(TK _ _ hT).size,ha]
 ·refine ⟨u,?_,hr⟩
  have h1:vs[o]? =some u:=by
   have:((vs.drop o).take ti.k.n)[0]? =some u:=by rw[hu];rfl
   rw[List.getElem?_take]at this
   split at this
   ·rw [List.getElem?_drop]at this;simpa using this
   ·cases this
  simp[part,(TK _ _ hT).isAgg,ha,h1]
theorem abe (TK:aZ P T)(M:aC w may ow m){t:TypeId}{f:Nat}{x:SV}{u:Value}{c:SV→Mem→Option R}(hx:aS w (ay ow m) may ow m x u){o:Nat}{ft:TypeId}(hf:fieldAt T t f=some (o,ft))
  {ls:List aT} (Ez:x= .one (.agg ls)) {agg:Bool} {n:Nat} (ht:JG T ft=some (agg,n)) {v:lM} (hv:GL agg ((ls.drop o).take n)=some v) (hlen:((ls.drop o).take n).length=n) (h:c (.one v) m=some r):
  g_ P may w ow m (do pure (.value (←Instr.field t u f))) c r:=by
 unfold fieldAt at hf
 split at hf
 case h_2=>cases hf
 rename_i fs k ag by' hT
 obtain⟨F,hu,_,hF⟩:=(TK _ _ hT).desc
 obtain⟨fd,h1,h2,h3,fi,h4,h5⟩:=hF _ _ _ hf
 obtain⟨ti,hti,hp⟩:=yT ht
 injection hp with hp1 hp2
 subst hp1 hp2
 subst Ez
 obtain⟨vs,rfl,hFF⟩:=hx
 obtain⟨z,hz,hr⟩:=afi (P:=P) TK hti hFF hlen hv
 exact g_.quiet M h (by simp[Instr.field,run_underlying hu,h1,asAgg,h3,h2,hz]) hr
theorem G6 (o:Nat):∀(cs:List Value) (k:Nat) (A:Array Value),o+k+cs.length≤A.size→
  (cs.zipIdx k).foldl (fun (a:Array Value) (p:Value×Nat)=>a.setIfInBounds (o+p.2) p.1) A=(A.toList.take (o+k)++cs++A.toList.drop (o+k+cs.length)).toArray
 |[],k,A,_=>by simp
 |c::cs,k,A,h=>by
  have h:o+k+(cs.length+1)≤A.size:=by simpa using h
  rw[List.zipIdx_cons,List.foldl_cons,G6 o cs (k+1) _ (by simp;omega)]
  congr 1
  have e:=list_seg_step A.toList (o+k) c cs (by simpa using h)
  simpa[Array.toList_setIfInBounds,Nat.add_assoc]using e
theorem XG {ok:Nat→Prop}{place:Nat→Option (Nat×Nat)}{fs:List (Nat×TypeId)}(hp:∀(i o:Nat)(ft:TypeId),fs[i]? =some (o,ft)→∃n,place i=some (o,n)∧∀ti,T ft=some ti→ti.k.n=n):
  ∀{cs:List (Nat×lM)} {vs:List (Nat×Value)} {ls ls':List aT} {cells:List Value},F2 (aQ w ok may ow) ls cells→F2 (fun (p:Nat×lM) (q:Nat×Value)=>p.1=q.1∧bG w ok may ow p.2 q.2) cs vs→
   Oj T ls fs cs=some ls'→∃out:List Value,Instr.fill place cells.toArray vs=some out.toArray∧F2 (aQ w ok may ow) ls' out
 |[],[],ls,ls',cells,h,_,e=>by
  simp only[Oj]at e
  obtain rfl:=Option.some.inj e
  exact⟨cells,rfl,h⟩
 |(i,c)::cs,(j,v)::vs,ls,ls',cells,h,hc,e=>by
  obtain⟨⟨rfl,hc1⟩,hc2⟩:=hc
  simp only[Oj]at e
  cases hf:fs[i]? with
  |none=>simp[hf]at e
  |some p=>
   obtain⟨o,ft⟩:=p
   simp only[hf]at e
   cases hT:JG T ft with
   |none=>simp[hT]at e
   |some q=>
    obtain⟨ti,hti,rfl⟩:=yT hT
    simp only[hT]at e
    obtain⟨hb,e⟩:=aG e
    simp only[Bool.and_eq_true]at hb
    have wQ:=Nat.eq_of_beq_eq_true hb.1
    have Qa:=Nat.le_of_ble_eq_true hb.2
    obtain⟨n,hpl,hn⟩:=hp i o ft hf
    obtain rfl:=hn ti hti
    have hcc:=hc1.cells
    have hlen:=hcc.len
    have hl:=h.len
    obtain⟨out,ho1,ho2⟩:=XG hp (h.mF (o:=o) hcc) hc2 e
    refine⟨out,?_,ho2⟩
    simp only[Instr.fill,hpl]
    have pY:v.cells.size=ti.k.n:=by rw[←Array.length_toList,←hlen,wQ]
    rw[if_neg (by simp[pY];omega)]
    rw[←ho1]
    congr 1
    rw[←Array.foldl_toList,Array.toList_zipIdx]
    have:=G6 o v.cells.toList 0 cells.toArray (by rw[Array.length_toList,pY];simp;omega)
    simpa using this
 |[],_::_,_,_,_,_,h,_=>h.elim
 |_::_,[],_,_,_,_,h,_=>h.elim
end
end Go.Fx
