/- A law's argument that is a sign and a list of limbs. -/
import Derived.Test.YtjhbcpnliiegoaaEv25
import Derived.ChangeSame
import Derived.WideShapes
import Derived.SizedLaws
namespace Go.Fx
open Go Go.RowKit Go.ChangeShapes Go.WideShapes Go.ChangeAt
set_option linter.unusedVariables false
set_option linter.unusedSimpArgs false
section
variable {H : Type} {enc : TypeId × Value → H} {P : Program} {W : World}
end
end Go.Fx
