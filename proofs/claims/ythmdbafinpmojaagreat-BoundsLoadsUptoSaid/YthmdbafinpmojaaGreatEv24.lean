/- A law's arguments, as data. -/
import Derived.Test.YthmdbafinpmojaaGreatEv23
import Derived.WalkKit
import Derived.ProofKit
import Derived.OpenShut
import Derived.ShutString
import Derived.ChangeOld
import Derived.ChangeSlices
import Derived.Below
import Derived.SizedLaws
namespace Go.Fx
open Go Go.RowKit Go.ChangeShapes Go.WideShapes Go.ChangeAt
set_option linter.unusedVariables false
set_option linter.unusedSimpArgs false
section
variable {H:Type} {enc:TypeId×Value→H} {P:Program} {W:World}
end
theorem calls_true {P:Program}{tabs:Nat→Option Tbl}{g:FuncId}{ps:List (Bool×K)}{fn:argT ps→Option (Bool×Unit)}{md:Md}(h:CalOk P tabs g ⟨ps,[(false,.bool)],md,fn⟩){x:argT ps}(hx:fn x=some (true,())){w:World}{vs:List Value}(hT:Tabled tabs w)(hr:RdArgs w (fun _=>True) ps x vs):
  Calls P g vs.toArray w fun e w'=>e= .returned (.bool true)∧Below w.heap.size w w':=by
 refine(h.contract w (fun _=>True) x (true,()) vs hT hx hr).mono fun e w' ⟨v,cs,rows,ow',he,ht,M,hv,hb⟩=> ?_
 subst he
 refine⟨?_,hb⟩
 cases md<;>(simp [thaw,Md.isOwn,thawL,splitK,mkC]at ht;obtain⟨rfl,rfl⟩:=ht;have h1:=bool?_rel hv rfl;rw[h1])
end Go.Fx
