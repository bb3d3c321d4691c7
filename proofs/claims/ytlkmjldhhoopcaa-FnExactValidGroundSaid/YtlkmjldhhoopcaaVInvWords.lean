-- taken by wip/tools/prunew.py out of words that a tool of the kit printed for this seat: what its texts reach. Lean checks it.
import Derived.Test.YtlkmjldhhoopcaaVInv
import Derived.Test.YtlkmjldhhoopcaaVFootNe
namespace Go.Proofs.YtlkmjldhhoopcaaW.PrintWords
open Go.RowKit
end Go.Proofs.YtlkmjldhhoopcaaW.PrintWords
namespace Go.Proofs.YtlkmjldhhoopcaaW.PrintLast
section
variable {ops : Array Oper} {a : Act} {o og : Oper} {g : Nat} {t : Tmp} {u : Bool}
end
end Go.Proofs.YtlkmjldhhoopcaaW.PrintLast
