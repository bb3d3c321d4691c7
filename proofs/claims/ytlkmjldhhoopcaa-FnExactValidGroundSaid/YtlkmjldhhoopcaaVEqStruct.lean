-- taken by wip/tools/prunew.py out of words that a tool of the kit printed for this seat: what its texts reach. Lean checks it.
import Derived.Test.YtlkmjldhhoopcaaVWords
import Derived.Laws.StructEq
namespace Go.Proofs.YtlkmjldhhoopcaaW.PrintWords
open Go.RowKit
section
variable {P : Program} {d : Nat} {xs ys : Array Value} {f : Field} {fs : List Field} {a b : Value} {r s : Bool} {w : World}
end
end Go.Proofs.YtlkmjldhhoopcaaW.PrintWords
