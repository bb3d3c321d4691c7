import Derived.Test.YtmgelocefebldaaXFnBestF
import Derived.Test.YtmgelocefebldaaRvM5
namespace Go.Proofs.Ytmgelocefebldaa
/-- The plain statement that is left of the law. -/
def PureFnBest : Prop := ∀ (e0 : List Int) (e1 : List Int), Go.Rv.Wf (.sl (.int .u8)) e0 → Go.Rv.Wf (.sl (.int .u8)) e1 → ∃ k, R.laws_FnBest.f k e0 e1 = some true
end Go.Proofs.Ytmgelocefebldaa
