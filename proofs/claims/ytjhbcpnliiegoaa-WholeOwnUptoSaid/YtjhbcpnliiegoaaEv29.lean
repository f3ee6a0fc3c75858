/- A function that is lent a variable, or given rows, or makes a variable: its contract, from its evaluation. -/
import Derived.Test.YtjhbcpnliiegoaaEv28
namespace Go.Fx
open Go Go.RowKit
set_option linter.unusedVariables false
set_option linter.unusedSimpArgs false
section
variable {P : Program} {T : Tab} {C : Cals}
end
end Go.Fx
