import Derived.Test.YtmgelocefebldaaXFnExactBestTubeF
import Derived.Test.YtmgelocefebldaaRvM5
namespace Go.Proofs.Ytmgelocefebldaa
/-- The plain statement that is left of the law. -/
def PureFnExactBestTube : Prop := ∀ (e0 : ((Int × Int × Int × Int) × List (Int × Int × Int))) (e1 : Int) (e2 : (Int × Int × Int × Int)) (e3 : (Int × Int)) (e4 : Int), Go.Rv.Wf (.pair (.pair (.int .i64) (.pair (.int .i64) (.pair (.int .i64) (.int .i64)))) (.sl (.pair (.int .i64) (.pair (.int .i64) (.int .i64))))) e0 → Go.Rv.Wf (.int .i64) e1 → Go.Rv.Wf (.pair (.int .i64) (.pair (.int .i64) (.pair (.int .i64) (.int .i64)))) e2 → Go.Rv.Wf (.pair (.int .i64) (.int .i64)) e3 → Go.Rv.Wf (.int .i64) e4 → ∃ k, R.laws_FnExactBestTube.f k e0.1.1 e0.1.2.1 e0.1.2.2.1 e0.1.2.2.2 e0.2 e1 e2.1 e2.2.1 e2.2.2.1 e2.2.2.2 e3.1 e3.2 e4 = some true
end Go.Proofs.Ytmgelocefebldaa
