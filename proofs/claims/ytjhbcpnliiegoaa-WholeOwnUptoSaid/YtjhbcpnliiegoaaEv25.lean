/- A law's arguments, as data: a slice of whole numbers and how its reading looks. -/
import Derived.Test.YtjhbcpnliiegoaaEv24
namespace Go.Fx
open Go Go.RowKit Go.ChangeShapes Go.WideShapes Go.ChangeAt
set_option linter.unusedVariables false
set_option linter.unusedSimpArgs false
section
variable {H : Type} {enc : TypeId × Value → H} {P : Program} {W : World}
end
end Go.Fx
