/- The poses of an axis, by the program. -/
import Derived.Test.YtkmnllcccgnliaaXFnSplitAxW
namespace Go.Proofs.Ytkmnllcccgnliaa.R
open Go.Rv Go.Rv.Ax
set_option linter.unusedVariables false
set_option linter.unusedSimpArgs false
theorem posesOf_w (p : Po) (l : List Cu) : W (fun k _ => impl_PosesOf.f k p.1 p.2.1 p.2.2.1 p.2.2.2 l) (· = posesV p l) := impl_PosesOf.w (W.bindE (implPoses_w p l) (W.ret rfl))
end Go.Proofs.Ytkmnllcccgnliaa.R
