import Derived.Test.YtkmnllcccgnliaaXFnClearanceF
import Derived.Test.YtkmnllcccgnliaaRvRow
namespace Go.Proofs.Ytkmnllcccgnliaa
/-- The plain statement that is left of the law. -/
def PureFnClearance : Prop := ∀ (e0 : List Int) (e1 : List Int), Go.Rv.Wf (.sl (.int .u8)) e0 → Go.Rv.Wf (.sl (.int .u8)) e1 → ∃ k, R.laws_FnClearance.f k e0 e1 = some true
end Go.Proofs.Ytkmnllcccgnliaa
