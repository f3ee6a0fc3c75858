/- Functions that call themselves: a contract for each depth. -/
import Derived.Test.YtjojmgadmdgdgaaGreatEv31
import Derived.Test.YtjojmgadmdgdgaaGreatEv30
namespace Go.Fx
open Go Go.RowKit
set_option linter.unusedVariables false
set_option linter.unusedSimpArgs false
noncomputable def recF (q:Spec)(C:Cals)(T:Tab)(f:Func)(g:FuncId):Nat→argT q.ps→Option (argT q.rs)
 |0,_=>none
 |n+1,x=>limF q (Cals.cons g ⟨q.ps,q.rs,q.md,recF q C T f g n⟩ C) T f x
noncomputable def recC (q:Spec)(C:Cals)(T:Tab)(f:Func)(g:FuncId)(n:Nat):Cals:=Cals.cons g ⟨q.ps,q.rs,q.md,recF q C T f g n⟩ C
theorem recF_of {q:Spec}{C:Cals}{T:Tab}{f:Func}{g:FuncId}{n:Nat}{x:argT q.ps}{y:argT q.rs}(k:Nat)(h:evalF q (recC q C T f g n) T f k x=some y):recF q C T f g (n+1) x=some y:=limF_of k h
theorem calOk_rec {P:Program}{T:Tab}{C:Cals}{g:FuncId}{f:Func}{q:Spec}(TK:TabOk P T)(CK:CalsOk P C)(hmix:P.follows .mixedOrders=true)(hf:P.funcs[g]? =some f)(hb:f.body.isSome=true)
  (hd:noDup (loopTags (f.body.get hb))=true) (hn:Nat.ble q.ps.length f.ntmps=true) (hnm:(f.name== "runtime.NumGoroutine")=false):∀n,CalOk P C.tabs g ⟨q.ps,q.rs,q.md,recF q C T f g n⟩
 |0=>calOk_of (sg:=⟨q.ps,q.rs,q.md,recF q C T f g 0⟩) hf hnm (by rw[Option.isNone_eq_false_iff];exact hb) fun w okA x y vs hT hx hr=>by cases hx
 |n+1=>by
  have CK':CalsOk P (recC q C T f g n):=CalsOk.cons (calOk_rec TK CK hmix hf hb hd hn hnm n) CK
  exact calOk_lim' (C:=recC q C T f g n) TK CK' hmix hf hb hd hn hnm
theorem calOk_deep {P:Program}{tabs:Nat→Option Tbl}{g:FuncId}{ps rs:List (Bool×K)}{md:Md}{F:Nat→argT ps→Option (argT rs)}(h:∀n,CalOk P tabs g ⟨ps,rs,md,F n⟩)(m:argT ps→Nat):CalOk P tabs g ⟨ps,rs,md,fun x=>F (m x) x⟩ where
 fn:=(h 0).fn
 contract:=fun w okA x y vs hT hx hr=>(h (m x)).contract w okA x y vs hT hx hr
end Go.Fx
