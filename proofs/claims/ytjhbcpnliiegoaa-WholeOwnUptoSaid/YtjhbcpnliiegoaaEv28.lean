/- A function that is lent a variable, or given rows, or makes a variable: its evaluation, its contract. -/
import Derived.Test.YtjhbcpnliiegoaaEv23
namespace Go.Fx
open Go Go.RowKit
set_option linter.unusedVariables false
set_option linter.unusedSimpArgs false
section
variable {P : Program} {T : Tab} {C : Cals} {w : World} {may : Nat → Prop} {ow : Ow} {m : Mem} {s : S} {a : Act}
end
end Go.Fx
