import Derived.Test.YtkmnllcccgnliaaXFnSplitF
import Derived.Test.YtkmnllcccgnliaaRvM3
namespace Go.Proofs.Ytkmnllcccgnliaa
/-- The plain statement that is left of the law. -/
def PureFnSplit : Prop := ∀ (e0 : List Int) (e1 : List Int), Go.Rv.Wf (.sl (.int .u8)) e0 → Go.Rv.Wf (.sl (.int .u8)) e1 → ∃ k, R.laws_FnSplit.f k e0 e1 = some true
end Go.Proofs.Ytkmnllcccgnliaa
