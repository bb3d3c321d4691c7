-- taken by wip/tools/prunew.py out of words that a tool of the kit printed for this seat: what its texts reach. Lean checks it.
import Derived.Test.YtlkmjldhhoopcaaVN
namespace Go.Proofs.YtlkmjldhhoopcaaW.PrintWords
open Go.RowKit
namespace Kd
section
variable {α : Type} {d : Kd α} {W : World} {g n : Nat} {S ok : Nat → Prop} {A : Option Addr} {ad : Addr} {xs : List α}
end
end Kd
end Go.Proofs.YtlkmjldhhoopcaaW.PrintWords
