/- Structs of whole numbers, held against each other. -/
import Derived.Test.YthmdbafinpmojaaGreatEv27
import Derived.Test.YthmdbafinpmojaaGreatEv29
namespace Go.Fx
open Go Go.RowKit
set_option linter.unusedVariables false
set_option linter.unusedSimpArgs false
section
variable {P:Program}
theorem int_eqIn {t:TypeId}(hu:P.underlying t=some (.int .i64))(a b:Int)(w:World)(d:Nat):(Op.equalIn (d+1) t (.int .i64 a) (.int .i64 b)).run P w= .ok (a==b) w:=by
 rw[Op.equalIn,Sem.run_bind,run_underlying hu,Result.andThen_ok]
 simp
theorem EqOk.of2 {t:TypeId}{f0 f1:Field}(hu:P.underlying t=some (.struct #[f0,f1]))(hs:P.stoodInHeld t=false)(hg:P.eqGuardType P.depth t=false)(h0:P.underlying f0.type=some (.int .i64))(h1:P.underlying f1.type=some (.int .i64))
  (n0:(f0.name== "_")=false) (n1:(f1.name== "_")=false) (o0:f0.offset=0) (o1:f1.offset=1) (s0:∀w,(sizeOf f0.type).run P w= .ok 1 w) (s1:∀w,(sizeOf f1.type).run P w= .ok 1 w) (a0:∀w,(isAgg f0.type).run P w= .ok false w) (a1:∀w,(isAgg f1.type).run P w= .ok false w):EqOk P t 2:=by
 intro w op x y xs ys hx hy hop
 match xs,ys,hx,hy with
 |[a,b],[c,d],_,_=>
 have n0':f0.name≠ "_" :=by simpa using n0
 have n1':f1.name≠ "_" :=by simpa using n1
 have he:(Op.equal t (.agg #[.int .i64 a,.int .i64 b]) (.agg #[.int .i64 c,.int .i64 d])).run P w= .ok ([a,b]==[c,d]) w:=by
  show(Op.equalIn (9999+1) t _ _).run P w=_
  rw[Op.equalIn,Sem.run_bind,run_underlying hu,Result.andThen_ok]
  have e1:=int_eqIn h0 a c w 9998
  have e2:=int_eqIn h1 b d w 9998
  simp[hs,n0',n1',o0,o1,part,s0,s1,a0,a1,e1,e2]
  by_cases k1:a=c<;>by_cases k2:b=d<;>simp[k1,k2]
 rcases hop with rfl|rfl
 ·simp [eqGuard,hg,binOp,he]
 ·simp [eqGuard,hg,binOp,he]
end
end Go.Fx
