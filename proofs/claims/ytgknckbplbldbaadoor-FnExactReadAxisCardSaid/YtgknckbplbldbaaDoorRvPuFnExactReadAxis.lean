import Derived.Test.YtgknckbplbldbaaDoorXFnExactReadAxisF
import Derived.Test.YtgknckbplbldbaaDoorRvM3
namespace Go.Proofs.YtgknckbplbldbaaDoor
/-- The plain statement that is left of the law. -/
def PureFnExactReadAxis : Prop := ∀ (e0 : ByteArray), Go.Rv.Wf .str e0 → ∃ k, R.laws_FnExactReadAxis.f k e0 = some true
end Go.Proofs.YtgknckbplbldbaaDoor
