/- What ValidAxis answers. -/
import Derived.Test.YtkmnllcccgnliaaAxis
import Derived.Test.YtkmnllcccgnliaaEvKit
import Derived.Test.YtkmnllcccgnliaaGy6
namespace Go.Proofs.Ytkmnllcccgnliaa.K
open Go.RowKit Go.Proofs.Ytkmnllcccgnliaa.G Go.Proofs.YtkmnllcccgnliaaW.PrintWords Go.Proofs.YtkmnllcccgnliaaW.PrintLast Go.Proofs.YtkmnllcccgnliaaW.PrintMore
set_option linter.unusedVariables false
set_option linter.unusedSimpArgs false

theorem implValid_ev (s : Po) (l : List Cu) : Ev (fun k => impl_ValidAxis.f k s.f0 s.f1 s.f2 s.f3 l) (axV s l).isSome := by
  unfold impl_ValidAxis.f
  refine Ev.bind (implPoses_ev s l) ?_
  cases axV s l <;> exact Ev.now _

end Go.Proofs.Ytkmnllcccgnliaa.K
