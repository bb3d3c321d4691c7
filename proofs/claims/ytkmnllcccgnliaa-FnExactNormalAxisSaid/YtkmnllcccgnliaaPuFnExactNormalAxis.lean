-- written by wip/tools/myprint.py for this claim (out of the translation; functions by hand where the printer stops). Lean checks it.
import Derived.Test.YtkmnllcccgnliaaGy16
import Derived.Test.YtkmnllcccgnliaaArgs
namespace Go.Proofs.Ytkmnllcccgnliaa.G
open Go.RowKit Go.Proofs.YtkmnllcccgnliaaW.PrintWords Go.Proofs.Ytkmnllcccgnliaa.K
/-- The plain statement that is left of the law. -/
def laws_FnExactNormalAxis.Pure : Prop := ∀ (a0_0 : Int) (a0_1 : Int) (a0_2 : Int) (a0_3 : Int) (l0_4 : List (S105)), ((Lit.int .i64 a0_0).wf = true) → ((Lit.int .i64 a0_1).wf = true) → ((Lit.int .i64 a0_2).wf = true) → ((Lit.int .i64 a0_3).wf = true) → (l0_4.length ≤ 9223372036854775807) → (∀ x_ ∈ l0_4, W105 x_) → ∃ k, laws_FnExactNormalAxis.f k a0_0 a0_1 a0_2 a0_3 l0_4 = some true
end Go.Proofs.Ytkmnllcccgnliaa.G
