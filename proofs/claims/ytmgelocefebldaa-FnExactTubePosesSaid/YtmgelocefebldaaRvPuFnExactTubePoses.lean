import Derived.Test.YtmgelocefebldaaXFnExactTubePosesF
import Derived.Test.YtmgelocefebldaaRvM3
namespace Go.Proofs.Ytmgelocefebldaa
/-- The plain statement that is left of the law. -/
def PureFnExactTubePoses : Prop := ∀ (e0 : (Int × Int × Int × Int)) (e1 : List (Int × Int)), Go.Rv.Wf (.pair (.int .i64) (.pair (.int .i64) (.pair (.int .i64) (.int .i64)))) e0 → Go.Rv.Wf (.sl (.pair (.int .i64) (.int .i64))) e1 → ∃ k, R.laws_FnExactTubePoses.f k e0.1 e0.2.1 e0.2.2.1 e0.2.2.2 e1 = some true
end Go.Proofs.Ytmgelocefebldaa
