-- taken by wip/tools/prunew.py out of words that a tool of the kit printed for this seat: what its texts reach. Lean checks it.
import Derived.Test.YtkmnllcccgnliaaVInv
import Derived.Test.YtkmnllcccgnliaaVFootNe
namespace Go.Proofs.YtkmnllcccgnliaaW.PrintWords
open Go.RowKit
end Go.Proofs.YtkmnllcccgnliaaW.PrintWords
namespace Go.Proofs.YtkmnllcccgnliaaW.PrintLast
section
variable {ops : Array Oper} {a : Act} {o og : Oper} {g : Nat} {t : Tmp} {u : Bool}
end
end Go.Proofs.YtkmnllcccgnliaaW.PrintLast
