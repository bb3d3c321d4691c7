import Derived.Test.YtdcpjbheedofdaaDoorXFnListsF
import Derived.Test.YtdcpjbheedofdaaDoorRvM3
namespace Go.Proofs.YtdcpjbheedofdaaDoor
/-- The plain statement that is left of the law. -/
def PureFnLists : Prop := ∀ (e0 : List Int) (e1 : List Int), Go.Rv.Wf (.sl (.int .u8)) e0 → Go.Rv.Wf (.sl (.int .u8)) e1 → ∃ k, R.laws_FnLists.f k e0 e1 = some true
end Go.Proofs.YtdcpjbheedofdaaDoor
