/- Whether an axis is valid, by the program. -/
import Derived.Test.YtgknckbplbldbaaDoorXFnExactReadAxisAxW
namespace Go.Proofs.YtgknckbplbldbaaDoor.R
open Go.Rv Go.Rv.Ax
set_option linter.unusedVariables false
set_option linter.unusedSimpArgs false
theorem validAxis_w (p : Po) (l : List Cu) : W (fun k _ => impl_ValidAxis.f k p.1 p.2.1 p.2.2.1 p.2.2.2 l) (· = decide (Ok p l)) := by
  refine impl_ValidAxis.w (W.bindE (implPoses_w p l) (W.ret ?_))
  unfold posesV; split <;> simp [*]
end Go.Proofs.YtgknckbplbldbaaDoor.R
