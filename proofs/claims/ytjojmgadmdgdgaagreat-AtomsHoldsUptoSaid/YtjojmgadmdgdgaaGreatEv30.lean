/- Structs of whole numbers, held against each other. -/
import Derived.Test.YtjojmgadmdgdgaaGreatEv27
import Derived.Test.YtjojmgadmdgdgaaGreatEv29
namespace Go.Fx
open Go Go.RowKit
set_option linter.unusedVariables false
set_option linter.unusedSimpArgs false
end Go.Fx
