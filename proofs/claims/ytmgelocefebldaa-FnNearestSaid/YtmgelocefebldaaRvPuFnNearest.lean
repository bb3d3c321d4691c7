import Derived.Test.YtmgelocefebldaaXFnNearestF
import Derived.Test.YtmgelocefebldaaRvM4
namespace Go.Proofs.Ytmgelocefebldaa
/-- The plain statement that is left of the law. -/
def PureFnNearest : Prop := ∀ (e0 : List Int) (e1 : List Int), Go.Rv.Wf (.sl (.int .u8)) e0 → Go.Rv.Wf (.sl (.int .u8)) e1 → ∃ k, R.laws_FnNearest.f k e0 e1 = some true
end Go.Proofs.Ytmgelocefebldaa
