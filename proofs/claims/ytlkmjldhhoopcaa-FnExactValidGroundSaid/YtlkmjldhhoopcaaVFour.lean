-- taken by wip/tools/prunew.py out of words that a tool of the kit printed for this seat: what its texts reach. Lean checks it.
import Derived.Test.YtlkmjldhhoopcaaVTab
namespace Go.Proofs.YtlkmjldhhoopcaaW.PrintLast
section
variable {P : Program} {ops : Array Oper} {Q : Exit → Act → World → Prop} {md : Region.Mode} {S : World → Prop} {ds : List Nat} {T : Bool × List (List Nat × List Nat)}
end
end Go.Proofs.YtlkmjldhhoopcaaW.PrintLast
