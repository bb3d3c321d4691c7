import Derived.Test.YtmgelocefebldaaXFnExactOffsetsBehindF
import Derived.Test.YtmgelocefebldaaRvM4
namespace Go.Proofs.Ytmgelocefebldaa
/-- The plain statement that is left of the law. -/
def PureFnExactOffsetsBehind : Prop := ∀ (e0 : ((Int × Int × Int × Int) × List (Int × Int × Int))) (e1 : Int) (e2 : (Int × Int × Int × Int)) (e3 : List (Int × Int)), Go.Rv.Wf (.pair (.pair (.int .i64) (.pair (.int .i64) (.pair (.int .i64) (.int .i64)))) (.sl (.pair (.int .i64) (.pair (.int .i64) (.int .i64))))) e0 → Go.Rv.Wf (.int .i64) e1 → Go.Rv.Wf (.pair (.int .i64) (.pair (.int .i64) (.pair (.int .i64) (.int .i64)))) e2 → Go.Rv.Wf (.sl (.pair (.int .i64) (.int .i64))) e3 → ∃ k, R.laws_FnExactOffsetsBehind.f k e0.1.1 e0.1.2.1 e0.1.2.2.1 e0.1.2.2.2 e0.2 e1 e2.1 e2.2.1 e2.2.2.1 e2.2.2.2 e3 = some true
end Go.Proofs.Ytmgelocefebldaa
