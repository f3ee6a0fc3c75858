/- A law's arguments of any depth (structs and slices of whole numbers, truth values, texts), as data. -/
import Derived.Test.YtjojmgadmdgdgaaEv26
namespace Go.Fx
open Go Go.RowKit Go.ChangeShapes Go.WideShapes Go.ChangeAt
set_option linter.unusedVariables false
set_option linter.unusedSimpArgs false
section
variable {H : Type} {enc : TypeId × Value → H} {P : Program} {W : World}
end
end Go.Fx
