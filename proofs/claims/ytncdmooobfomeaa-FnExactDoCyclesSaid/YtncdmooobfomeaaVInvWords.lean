-- taken by wip/tools/prunew.py out of words that a tool of the kit printed for this seat: what its texts reach. Lean checks it.
import Derived.Test.YtncdmooobfomeaaVInv
import Derived.Test.YtncdmooobfomeaaVFootNe
namespace Go.Proofs.YtncdmooobfomeaaW.PrintWords
open Go.RowKit
end Go.Proofs.YtncdmooobfomeaaW.PrintWords
namespace Go.Proofs.YtncdmooobfomeaaW.PrintLast
section
variable {ops : Array Oper} {a : Act} {o og : Oper} {g : Nat} {t : Tmp} {u : Bool}
end
end Go.Proofs.YtncdmooobfomeaaW.PrintLast
