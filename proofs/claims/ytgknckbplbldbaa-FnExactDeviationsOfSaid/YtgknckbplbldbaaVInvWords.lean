-- taken by wip/tools/prunew.py out of words that a tool of the kit printed for this seat: what its texts reach. Lean checks it.
import Derived.Test.YtgknckbplbldbaaVInv
import Derived.Test.YtgknckbplbldbaaVFootNe
namespace Go.Proofs.YtgknckbplbldbaaW.PrintWords
open Go.RowKit
end Go.Proofs.YtgknckbplbldbaaW.PrintWords
namespace Go.Proofs.YtgknckbplbldbaaW.PrintLast
section
variable {ops : Array Oper} {a : Act} {o og : Oper} {g : Nat} {t : Tmp} {u : Bool}
end
end Go.Proofs.YtgknckbplbldbaaW.PrintLast
