/- What PosesOf answers, in the program and in the reference. -/
import Derived.Test.YtkmnllcccgnliaaAxis
import Derived.Test.YtkmnllcccgnliaaEvKit
import Derived.Test.YtkmnllcccgnliaaGy9
namespace Go.Proofs.Ytkmnllcccgnliaa.K
open Go.RowKit Go.Proofs.Ytkmnllcccgnliaa.G Go.Proofs.YtkmnllcccgnliaaW.PrintWords Go.Proofs.YtkmnllcccgnliaaW.PrintLast Go.Proofs.YtkmnllcccgnliaaW.PrintMore
set_option linter.unusedVariables false
set_option linter.unusedSimpArgs false

def posesV (s : Po) (l : List Cu) : List Po × Bool := match axV s l with | some ps => (ps, true) | none => ([], false)
theorem implPosesOf_ev (s : Po) (l : List Cu) : Ev (fun k => impl_PosesOf.f k s.f0 s.f1 s.f2 s.f3 l) (posesV s l) := by
  unfold impl_PosesOf.f
  exact Ev.bind (implPoses_ev s l) (Ev.now _)
theorem specPosesOf_ev (s : Po) (l : List Cu) : Ev (fun k => spec_PosesOf.f k s.f0 s.f1 s.f2 s.f3 l) (posesV s l) := by
  unfold spec_PosesOf.f posesV
  refine Ev.bind (specIs_ev s l) ?_
  cases e : axV s l with
  | none => exact Ev.now _
  | some ps =>
    simp only [Option.isSome_some, if_true]
    exact Ev.bind (specPoses_ev e) (Ev.now _)
theorem posesV_length (s : Po) (l : List Cu) : (posesV s l).1.length ≤ 61 := by
  unfold posesV
  cases e : axV s l with
  | none => simp
  | some ps => exact (axV_spec e).2.2.2.2.2.1
end Go.Proofs.Ytkmnllcccgnliaa.K
